/- Parts joined. -/
import Derived.Test.YtchhodikgllgnaaDoorNQE
import Derived.Deep.LoopGhost
set_option linter.unusedSimpArgs false
set_option linter.unusedVariables false
/- Walks of the package quarrels: isLaw, Harms. Conditions: lengths are Go's; the listed table holds what it holds. -/
namespace Go.Proofs.YtchhodikgllgnaaDoor
open Go.RowKit Go.Sort
theorem isLawQ_any (n : Int) (w : World) : Calls Tryd.prog 87 #[.int .i64 n] w fun e w' => e = .returned (.bool (inR n 0 99)) ∧ Below w.heap.size w w' := by
  go_enter Tryd.func87, Tryd.ntmps87
  go_wp2_with fail
  refine (withinQ_b _ _ _ _ _ rfl).mono ?_
  rintro e w' ⟨rfl, rfl⟩
  go_wp2_with fail
  go_ret
  exact ⟨rfl, Below.refl _ _⟩
theorem AskOut.ret {w : World} {base : Nat} {Aw Af : Option Addr} {cw cf : Nat} {t : Qt} {er : Int} {e : Ending} (h : AskOut w base Aw Af cw cf t er e) : ∃ v, e = .returned v := by
  by_cases he : er = 0
  · obtain ⟨C, mp, h1, _⟩ := h.2 he
    exact ⟨_, h1⟩
  · exact ⟨_, h.1 he⟩
theorem AskOut.lower {w : World} {base base' : Nat} {Aw Af : Option Addr} {cw cf : Nat} {t : Qt} {er : Int} {e : Ending} (h : AskOut w base Aw Af cw cf t er e) (hb : base' ≤ base) : AskOut w base' Aw Af cw cf t er e :=
  ⟨h.1, fun he => by
    obtain ⟨C, mp, h1, h2, h3, h4, h5⟩ := h.2 he
    exact ⟨C, mp, h1, h2, Nat.le_trans hb h3, h4, Nat.le_trans hb h5⟩⟩
set_option maxHeartbeats 2000000 in
set_option maxRecDepth 100000 in
theorem harmsQ_any (Aw Af : Option Addr) (cw cf : Nat) (t : Qt) (p q law : Int) (w : World) (hs : t.Small) (hT : QAt w Aw Af t) (hB : TabAt w) :
    Calls Tryd.prog 34 #[.agg #[.int .i64 t.wells, .slice Aw t.nw cw, .slice Af t.nf cf], .int .i64 p, .int .i64 q, .int .i64 law] w fun e w' => e = .returned (.tuple #[.int .i64 (if t.knowErr (t.wellB p && t.wellB q && inR law 0 99) = 0 then harmK (t.between p.toNat q.toNat) law else 0), .int .i64 (t.knowErr (t.wellB p && t.wellB q && inR law 0 99))]) ∧ Below w.heap.size w w' := by
  have hb0 := bAlloc (Below.refl w.heap.size w) (.cells #[.int .i64 t.wells, .slice Aw t.nw cw, .slice Af t.nf cf] 25)
  have HT := Lib.hid (hT.mono hb0)
  have HTB := Lib.hid (hB.mono hb0)
  have HB := Lib.hid hb0
  clear hT hb0 hB
  obtain ⟨b1, h1⟩ : ∃ b, t.wellB p = b := ⟨_, rfl⟩
  obtain ⟨b2, h2⟩ : ∃ b, t.wellB q = b := ⟨_, rfl⟩
  obtain ⟨b3, h3⟩ : ∃ b, inR law 0 99 = b := ⟨_, rfl⟩
  have HC1 := Lib.hid (fun w => h1 ▸ isWellQ_any Aw Af cw cf t p w : ∀ w : World, Calls Tryd.prog 71 #[.agg #[.int .i64 t.wells, .slice Aw t.nw cw, .slice Af t.nf cf], .int .i64 p] w fun e w' => e = .returned (.bool b1) ∧ Below w.heap.size w w')
  have HC2 := Lib.hid (fun w => h2 ▸ isWellQ_any Aw Af cw cf t q w : ∀ w : World, Calls Tryd.prog 71 #[.agg #[.int .i64 t.wells, .slice Aw t.nw cw, .slice Af t.nf cf], .int .i64 q] w fun e w' => e = .returned (.bool b2) ∧ Below w.heap.size w w')
  have HC3 := Lib.hid (fun w => h3 ▸ isLawQ_any law w : ∀ w : World, Calls Tryd.prog 87 #[.int .i64 law] w fun e w' => e = .returned (.bool b3) ∧ Below w.heap.size w w')
  obtain ⟨bb, hbb⟩ : ∃ bb, (b1 && b2 && b3) = bb := ⟨_, rfl⟩
  obtain ⟨er, her⟩ : ∃ er, t.knowErr bb = er := ⟨_, rfl⟩
  have HCO := Lib.hid (fun (w' : World) (hb : Below (w.alloc (.cells #[.int .i64 t.wells, .slice Aw t.nw cw, .slice Af t.nf cf] 25)).heap.size (w.alloc (.cells #[.int .i64 t.wells, .slice Aw t.nw cw, .slice Af t.nf cf] 25)) w') => ((openQ_any Aw Af cw cf t bb w' hs (HT.out.mono hb)).mono fun e w'' h => ⟨(her ▸ h.1).lower hb.size, h.2⟩ : Calls Tryd.prog 70 #[.agg #[.int .i64 t.wells, .slice Aw t.nw cw, .slice Af t.nf cf], .bool bb] w' fun e w'' => AskOut w'' (w.alloc (.cells #[.int .i64 t.wells, .slice Aw t.nw cw, .slice Af t.nf cf] 25)).heap.size Aw Af cw cf t er e ∧ Below w'.heap.size w' w''))
  have HE := Lib.hid (show t.knowErr (t.wellB p && t.wellB q && inR law 0 99) = er by rw [h1, h2, h3, hbb, her])
  rw [HE.out]
  have HKE := Lib.hid her
  have HG := Lib.hid hbb
  have HW1 := Lib.hid h1
  have HW2 := Lib.hid h2
  clear h1 h2 h3 her hbb HE
  by_cases he : er = 0
  · subst he
    obtain ⟨ok, rfl, hne⟩ := knowErr_zero HKE.out
    have hg := HG.out
    simp only [Bool.and_eq_true] at hg
    obtain ⟨⟨rfl, rfl⟩, rfl⟩ := hg
    have hp := inR_iff.1 ((wellB_ok ok p).symm.trans HW1.out)
    have hq := inR_iff.1 ((wellB_ok ok q).symm.trans HW2.out)
    obtain ⟨i, rfl⟩ : ∃ i : Nat, p = (i : Int) := ⟨p.toNat, by omega⟩
    obtain ⟨j, rfl⟩ : ∃ j : Nat, q = (j : Int) := ⟨q.toNat, by omega⟩
    have HP := Lib.hid (show (i : Int) < t.wells by omega)
    have HQ := Lib.hid (show (j : Int) < t.wells by omega)
    have HOK := Lib.hid ok
    rw [if_pos rfl, Int.toNat_natCast, Int.toNat_natCast]
    clear hp hq hne ok
    go_enter Tryd.func34, Tryd.ntmps34
    go_wp2_with fail
    refine wp_region_call 13 (fun v w2 => AskOut w2 (w.alloc (.cells #[.int .i64 t.wells, .slice Aw t.nw cw, .slice Af t.nf cf] 25)).heap.size Aw Af cw cf t 0 (.returned v) ∧ Below (w.alloc (.cells #[.int .i64 t.wells, .slice Aw t.nw cw, .slice Af t.nf cf] 25)).heap.size (w.alloc (.cells #[.int .i64 t.wells, .slice Aw t.nw cw, .slice Af t.nf cf] 25)) w2) (by kernel_rfl) (by decide +kernel) rfl ?_
    apply Exists.intro
    refine ⟨fun K hK => ?_, ?_, fun w1 hb1 K Q' hK => ?_, ?_⟩
    · skip
      repeat (first | (refine wpCalm_skip rfl ?_) | (refine wpCalm_step rfl (fun K hK => ?_); go_simp; (first | (refine hK _ ?_; clear hK K) | (apply Exists.intro; refine ⟨fun _ => ?_, hK _ ?_⟩; ((first | (go_at_call 71; with_reducible exact newer_of (HC1.out _)) | (go_at_call 71; with_reducible exact newer_of (HC2.out _)) | (go_at_call 87; with_reducible exact newer_of (HC3.out _)))); clear hK K))))
      refine wpCalm_nil ?_
      exact hK
    · rfl
    · go_simp
      refine (HCO.out w1 hb1).mono ?_
      rintro e w2 ⟨ho, hb2⟩
      obtain ⟨v, rfl⟩ := AskOut.ret ho
      exact hK v w2 ⟨ho, bTrans hb1 hb2⟩
    rintro v w2 ⟨ho, hb2⟩
    obtain ⟨C, mp, e1, hc, _⟩ := ho.2 rfl
    obtain rfl := Ending.returned.inj e1
    have HCT := Lib.hid hc
    have HB2 := Lib.hid hb2
    clear ho hb2 hc e1
    apply Exists.intro
    refine ⟨fun K hK => ?_, fun w3 hb3 => ?_⟩
    · skip
      repeat (first | (refine wpCalm_skip rfl ?_) | (refine wpCalm_step rfl (fun K hK => ?_); go_simp; (first | (refine hK _ ?_; clear hK K) | (apply Exists.intro; refine ⟨fun _ => ?_, hK _ ?_⟩; (fail); clear hK K))))
      refine wpCalm_nil ?_
      exact hK
    have HC3' := Lib.hid (HCT.out.mono hb3)
    have HB3 := Lib.hid (bTrans HB2.out hb3)
    clear hb3
    go_wp2_with fail
    refine (harmsC_any Aw Af cw cf C mp _ t i j law w3 HC3'.out (mask_64 t HOK.out.nw) (bits_mask t HOK.out.nw) HOK.out HP.out HQ.out (HT.out.mono HB3.out) (HTB.out.mono HB3.out)).mono ?_
    rintro e w4 ⟨rfl, hb4⟩
    go_wp2_with fail
    go_ret2
    exact ⟨rfl, bTrans HB.out (bTrans HB3.out hb4)⟩
  · have g0 : (er != 0) = true := by simp [he]
    have HNZ := Lib.hid he
    rw [if_neg he]
    clear he
    go_enter Tryd.func34, Tryd.ntmps34
    go_wp2_with fail
    rcases three_ways b1 b2 b3 with rfl | ⟨rfl, rfl⟩ | ⟨rfl, rfl, rfl⟩ | ⟨rfl, rfl, rfl⟩
    all_goals
      obtain rfl := HG.out
      refine wp_region_call 13 (fun v w2 => AskOut w2 (w.alloc (.cells #[.int .i64 t.wells, .slice Aw t.nw cw, .slice Af t.nf cf] 25)).heap.size Aw Af cw cf t er (.returned v) ∧ Below (w.alloc (.cells #[.int .i64 t.wells, .slice Aw t.nw cw, .slice Af t.nf cf] 25)).heap.size (w.alloc (.cells #[.int .i64 t.wells, .slice Aw t.nw cw, .slice Af t.nf cf] 25)) w2) (by kernel_rfl) (by decide +kernel) rfl ?_
      apply Exists.intro
      refine ⟨fun K hK => ?_, ?_, fun w1 hb1 K Q' hK => ?_, ?_⟩
      · skip
        repeat (first | (refine wpCalm_skip rfl ?_) | (refine wpCalm_step rfl (fun K hK => ?_); go_simp; (first | (refine hK _ ?_; clear hK K) | (apply Exists.intro; refine ⟨fun _ => ?_, hK _ ?_⟩; ((first | (go_at_call 71; with_reducible exact newer_of (HC1.out _)) | (go_at_call 71; with_reducible exact newer_of (HC2.out _)) | (go_at_call 87; with_reducible exact newer_of (HC3.out _)))); clear hK K))))
        refine wpCalm_nil ?_
        exact hK
      · rfl
      · go_simp
        refine (HCO.out w1 hb1).mono ?_
        rintro e w2 ⟨ho, hb2⟩
        obtain ⟨v, rfl⟩ := AskOut.ret ho
        exact hK v w2 ⟨ho, bTrans hb1 hb2⟩
      rintro v w2 ⟨ho, hb2⟩
      obtain rfl := Ending.returned.inj (ho.1 HNZ.out)
      have HB2 := Lib.hid hb2
      clear ho hb2
      apply Exists.intro
      refine ⟨fun K hK => ?_, fun w3 hb3 => ?_⟩
      · skip
        repeat (first | (refine wpCalm_skip rfl ?_) | (refine wpCalm_step rfl (fun K hK => ?_); go_simp; (first | (refine hK _ ?_; clear hK K) | (apply Exists.intro; refine ⟨fun _ => ?_, hK _ ?_⟩; (fail); clear hK K))))
        refine wpCalm_nil ?_
        exact hK
      have HB3 := Lib.hid (bTrans HB2.out hb3)
      clear hb3
      go_wp2_with fail
      go_ret2
      exact ⟨rfl, bTrans HB.out HB3.out⟩
end Go.Proofs.YtchhodikgllgnaaDoor
/- Slices of the call's own, whatever their elements, gone on with one by one. No condition. -/
namespace Go.Proofs.YtchhodikgllgnaaDoor
open Go.RowKit Go.Sort
/-- how an element lies in memory -/
structure Elem (α : Type) where
  enc : α → List Value
  size : Nat
  ty : TypeId
  sl : TypeId
  z : Value
  bytes : Nat
structure Elem.Good {α : Type} (E : Elem α) : Prop where
  info : (Tryd.prog.info? E.ty).map (fun i => (i.zero, i.size, i.bytes)) = some (some E.z, E.size, E.bytes)
  und : Tryd.prog.underlying E.sl = some (.slice E.ty)
  zs : E.z.cells.size = E.size
  pos : 0 < E.size
  len : ∀ x, (E.enc x).length = E.size
  one : ∀ x, ∀ u ∈ E.enc x, u.oneCell' = true
  by_ : E.bytes ≤ 1000000
def Elem.cells {α : Type} (E : Elem α) (l : List α) : List Value := l.flatMap E.enc
theorem Elem.cells_len {α : Type} {E : Elem α} (g : E.Good) : ∀ l : List α, (E.cells l).length = l.length * E.size
  | [] => by simp [Elem.cells]
  | x :: l => by
    have ih := Elem.cells_len g l
    unfold Elem.cells at ih ⊢
    rw [List.flatMap_cons, List.length_append, g.len, ih, List.length_cons, Nat.succ_mul, Nat.add_comm]
theorem Elem.cells_get {α : Type} {E : Elem α} (g : E.Good) : ∀ {l : List α} {j : Nat} {x : α} (i : Nat), l[j]? = some x → i < E.size → (E.cells l)[j * E.size + i]? = (E.enc x)[i]?
  | [], j, x, i, h, _ => by simp at h
  | y :: l, 0, x, i, h, hi => by
    obtain rfl : y = x := by simpa using h
    unfold Elem.cells
    rw [List.flatMap_cons, Nat.zero_mul, Nat.zero_add, List.getElem?_append_left (by rw [g.len]; exact hi)]
  | y :: l, j + 1, x, i, h, hi => by
    have ih := Elem.cells_get g (l := l) (j := j) (x := x) i (by simpa using h) hi
    unfold Elem.cells at ih ⊢
    rw [List.flatMap_cons, List.getElem?_append_right (by rw [g.len, Nat.succ_mul]; omega), g.len, Nat.succ_mul, show j * E.size + E.size + i - E.size = j * E.size + i by omega]
    exact ih
/-- a slice of the call's own that holds a list -/
def OwnE {α : Type} (E : Elem α) (w : World) (base : Nat) (v : Value) (l : List α) : Prop := w.ownsRow base E.ty E.size v l.length (E.cells l)
section
variable {α : Type} {E : Elem α} {w w' : World} {base : Nat} {v : Value} {l : List α}
theorem OwnE.nil (E : Elem α) (w : World) (base : Nat) : OwnE E w base (.slice none 0 0) [] := World.ownsRow_nil _ _ _ _
theorem OwnE.mono (h : OwnE E w base v l) (hb : Below w.heap.size w w') : OwnE E w' base v l := owns_below h hb
theorem OwnE.lower {base' : Nat} (h : OwnE E w base v l) (hb : base' ≤ base) : OwnE E w base' v l := owns_lower h hb
/-- a slice that reads as a list -/
def SliceE (E : Elem α) (w : World) (v : Value) (l : List α) : Prop := ∃ A c, v = .slice A l.length c ∧ RowAt w A (E.cells l)
theorem SliceE.mono (h : SliceE E w v l) (hb : Below w.heap.size w w') : SliceE E w' v l := by
  obtain ⟨A, c, e, h⟩ := h
  exact ⟨A, c, e, h.mono hb⟩
theorem OwnE.read (h : OwnE E w base v l) : SliceE E w v l := by
  rcases Nat.eq_zero_or_pos l.length with h0 | h0
  · obtain rfl := List.eq_nil_of_length_eq_zero h0
    rcases h.2 with ⟨rfl, _⟩ | ⟨g, cap, cur, rfl, _⟩
    · exact ⟨_, _, rfl, .inl rfl⟩
    · exact ⟨_, _, rfl, .inl rfl⟩
  · obtain ⟨A, c, e, hr⟩ := AtHand.row (N := base) (.inr ⟨h0, h⟩)
    exact ⟨A, c, e, hr⟩
theorem RowAt.elem (g : E.Good) {A : Option Addr} (h : RowAt w A (E.cells l)) {j : Nat} {x : α} (hj : l[j]? = some x) : ∃ b o, A = some ⟨b, o, none⟩ ∧ b < w.heap.size ∧ ∀ i u, (E.enc x)[i]? = some u → w.cell? ⟨b, o + (j * E.size + i), none⟩ = some u := by
  have hget := fun i (hi : i < E.size) => Elem.cells_get g (l := l) (j := j) (x := x) i hj hi
  rcases h with h | ⟨b, o, rfl, hlt, hc⟩
  · have h1 := hget 0 g.pos
    rw [h] at h1
    have : (E.enc x).length = E.size := g.len x
    have h2 : (E.enc x)[0]? = some ((E.enc x)[0]'(by rw [this]; exact g.pos)) := List.getElem?_eq_getElem _
    rw [h2] at h1
    simp at h1
  · refine ⟨b, o, rfl, hlt, fun i u hu => hc _ u ?_⟩
    have hi : i < (E.enc x).length := by
      rcases Nat.lt_or_ge i (E.enc x).length with h | h
      · exact h
      · rw [List.getElem?_eq_none h] at hu; cases hu
    rw [hget i (by rw [← g.len x]; exact hi)]
    exact hu
/-- 'append(out, x)' -/
theorem wpList_snocE (g : E.Good) (w : World) {ops : Array Oper} {rest : List Oper} {o : Oper} {a : Act} {Q : Exit → Act → World → Prop} (hg : o.guard = none) (s x : Operand) (hop : o.op = Op.call { callee := Callee.builtin Builtin.append, args := #[s, x], argTypes := #[E.sl, E.sl] })
    (base : Nat) (v : Value) (l : List α) (y : α) (hs : a.eval s = v) (hown : OwnE E w base v l) (b : Nat) (hx : a.eval x = .slice (some ⟨b, 0, none⟩) 1 1) (hc : ∀ i u, (E.enc y)[i]? = some u → w.cell? ⟨b, i, none⟩ = some u) (hlen : l.length ≤ 100000) (hbase : base ≤ w.heap.size)
    (h : ∀ v' w', OwnE E w' base v' (l ++ [y]) → (∀ b0 W, b0 ≤ base → Below b0 W w → Below b0 W w') → w.grownBy w' v.ownBlock → v' ≠ .slice none 0 0 → wpList Tryd.prog ops Q rest (a.put o.dst v') w') : wpList Tryd.prog ops Q (o :: rest) a w := by
  obtain ⟨i0, hi, iz0, iz1, iz2⟩ := info_parts g.info
  refine wpList_append_own w hg s x E.sl hop base E.ty i0 E.z E.size E.bytes g.und hi iz0 iz1 iz2 g.zs g.pos v l.length (E.cells l) hs hown ⟨b, 0, none⟩ 1 1 (E.enc y) hx (by rw [g.len, Nat.one_mul]) (fun j u hj => ?_) (fun u hu => g.one y u hu) (by unfold maxLen; omega) (by have := g.by_; exact Nat.le_trans (Nat.mul_le_mul (show l.length + 1 ≤ 100001 by omega) this) (by decide)) hbase fun v' w' h1 h2 h3 => ?_
  · have := hc j u hj
    rwa [show (⟨b, 0, none⟩ : Addr).add j = ⟨b, j, none⟩ from by unfold Addr.add; split <;> simp_all]
  · refine h v' w' ?_ (fun b0 W hb hB => hB.grown h2 (Nat.le_trans hb hbase) fun k hk => Nat.le_trans hb (hown.lt k hk).1) h2 fun e => ?_
    · show w'.ownsRow base E.ty E.size v' (l ++ [y]).length (E.cells (l ++ [y]))
      rw [List.length_append, show E.cells (l ++ [y]) = E.cells l ++ E.enc y from by simp [Elem.cells]]
      exact h1
    · have := h3.1 e
      omega
end
/-! ### Tests, pairs of worlds -/
def tstE : Elem Tp := { enc := fun x => [.int .i64 x.1, .int .i64 x.2], size := 2, ty := 27, sl := 34, z := .agg #[.int .i64 0, .int .i64 0], bytes := 16 }
theorem tstG : tstE.Good :=
  ⟨by kernel_rfl, Tryd.underlying34, by decide, by decide, fun _ => rfl, fun x u hu => by
    rcases (by simpa [tstE] using hu : u = .int .i64 x.1 ∨ u = .int .i64 x.2) with rfl | rfl <;> rfl, by decide⟩
def prE : Elem (Int × Int) := { enc := fun x => [.int .i64 x.1, .int .i64 x.2], size := 2, ty := 142, sl := 105, z := .agg #[.int .i64 0, .int .i64 0], bytes := 16 }
theorem prG : prE.Good :=
  ⟨by kernel_rfl, Tryd.underlying105, by decide, by decide, fun _ => rfl, fun x u hu => by
    rcases (by simpa [prE] using hu : u = .int .i64 x.1 ∨ u = .int .i64 x.2) with rfl | rfl <;> rfl, by decide⟩
theorem SliceE.tst {w : World} {A : Option Addr} {l : List Tp} (h : RowAt w A (tstE.cells l)) {j : Nat} {x : Tp} (hj : l[j]? = some x) : ∃ b o, A = some ⟨b, o, none⟩ ∧ b < w.heap.size ∧ w.cell? ⟨b, o + j * 2, none⟩ = some (.int .i64 x.1) ∧ w.cell? ⟨b, o + j * 2 + 1, none⟩ = some (.int .i64 x.2) := by
  obtain ⟨b, o, h1, h2, h3⟩ := RowAt.elem tstG h hj
  exact ⟨b, o, h1, h2, h3 0 _ rfl, h3 1 _ rfl⟩
theorem SliceE.pr {w : World} {A : Option Addr} {l : List (Int × Int)} (h : RowAt w A (prE.cells l)) {j : Nat} {x : Int × Int} (hj : l[j]? = some x) : ∃ b o, A = some ⟨b, o, none⟩ ∧ b < w.heap.size ∧ w.cell? ⟨b, o + j * 2, none⟩ = some (.int .i64 x.1) ∧ w.cell? ⟨b, o + j * 2 + 1, none⟩ = some (.int .i64 x.2) := by
  obtain ⟨b, o, h1, h2, h3⟩ := RowAt.elem prG h hj
  exact ⟨b, o, h1, h2, h3 0 _ rfl, h3 1 _ rfl⟩
end Go.Proofs.YtchhodikgllgnaaDoor
/- Walks of the package quarrels: areDraws, the closure of Total. Conditions: lengths are Go's; of the closure: a valid world and draws. -/
namespace Go.Proofs.YtchhodikgllgnaaDoor
open Go.RowKit Go.Sort
theorem draws1Q_any (n : Int) (w : World) : Calls Tryd.prog 129 #[.int .i64 n] w fun e w' => e = .returned (.bool (!inR n 0 9)) ∧ Below w.heap.size w w' := by
  go_enter Tryd.func129, Tryd.ntmps129
  go_wp2_with fail
  refine (withinQ_b _ _ _ _ _ rfl).mono ?_
  rintro e w' ⟨rfl, rfl⟩
  go_wp2_with fail
  go_ret
  exact ⟨rfl, Below.refl _ _⟩
/-- whether numbers are draws -/
def Qt.drawsB (t : Qt) (n : Nat) (g : Nat → Int) : Bool := decide ((n : Int) = t.wells) && !anyB (fun i => !inR (g i) 0 9) n
theorem drawsB_iff {t : Qt} {n : Nat} {g : Nat → Int} : t.drawsB n g = true ↔ (n : Int) = t.wells ∧ ∀ i, i < n → 0 ≤ g i ∧ g i ≤ 9 := by
  unfold Qt.drawsB
  rw [Bool.and_eq_true, decide_eq_true_eq, Bool.not_eq_true', anyB_false]
  simp [inR_iff]
theorem areDrawsQ_any (Aw Af A : Option Addr) (cw cf c n : Nat) (t : Qt) (g : Nat → Int) (w : World) (hn : n ≤ 9223372036854775807) (hI : IntsAt w A n g) :
    Calls Tryd.prog 109 #[.agg #[.int .i64 t.wells, .slice Aw t.nw cw, .slice Af t.nf cf], .slice A n c] w fun e w' => e = .returned (.bool (t.drawsB n g)) ∧ Below w.heap.size w w' := by
  have hb0 := bAlloc (Below.refl w.heap.size w) (.cells #[.int .i64 t.wells, .slice Aw t.nw cw, .slice Af t.nf cf] 25)
  have HI := Lib.hid (hI.mono hb0)
  have HB := Lib.hid hb0
  clear hb0 hI
  by_cases hnw : (n : Int) = t.wells
  · have g0 : ((n : Int) == t.wells) = true := by simp [hnw]
    have HE := Lib.hid (show t.drawsB n g = !anyB (fun i => !inR (g i) 0 9) n by unfold Qt.drawsB; simp [hnw])
    clear hnw
    go_enter Tryd.func109, Tryd.ntmps109
    go_wp2_with fail
    refine (none_int A n c 129 #[] g (fun i => !inR (g i) 0 9) _ hn HI.out (enters_of Tryd.func129 (by kernel_rfl)) (fun i _ w' _ => draws1Q_any (g i) w')).mono ?_
    rintro e w1 ⟨rfl, hb1⟩
    go_wp2_with fail
    go_ret
    exact ⟨by rw [HE.out]; rfl, bTrans HB.out hb1⟩
  · have g0 : ((n : Int) == t.wells) = false := by simp [hnw]
    have HE := Lib.hid (show t.drawsB n g = false by unfold Qt.drawsB; simp [hnw])
    clear hnw
    go_enter Tryd.func109, Tryd.ntmps109
    go_wp2_with fail
    go_ret
    exact ⟨by rw [HE.out]; rfl, HB.out⟩
theorem mul_bd9 {a b : Int} (h0 : 0 ≤ a) (h1 : a ≤ 9) (h2 : 0 ≤ b) (h3 : b ≤ 9) : 0 ≤ a * b ∧ a * b ≤ 81 :=
  ⟨Int.mul_nonneg h0 h2, Int.le_trans (Int.mul_le_mul h1 h3 h2 (by omega)) (by decide)⟩
set_option maxHeartbeats 2000000 in
theorem total1Q_any (A Ad : Option Addr) (c cd a d n : Nat) (m : Int) (x : Wd) (g : Nat → Int) (q : Nat) (w : World) (hm : m ≤ 4) (ok : x.Ok m) (hn : (n : Int) = m) (hg : ∀ i, i < n → 0 ≤ g i ∧ g i ≤ 9) (hq : (q : Int) < m) (hr : RowsAt w A x) (hI : IntsAt w Ad n g)
    (ha : a < w.heap.size) (hca : w.cell? ⟨a, 0, none⟩ = some (.slice Ad n cd)) (hd : d < w.heap.size) (hcd : w.cell? ⟨d, 0, none⟩ = some (.int .i64 q)) :
    Calls Tryd.prog 110 #[.agg #[.slice A x.n c], .pointer (some ⟨a, 0, none⟩), .pointer (some ⟨d, 0, none⟩)] w fun e w' => e = .returned (.int .i64 (sumTo (fun i => g i * x.fall i q) n)) ∧ Below w.heap.size w w' := by
  have hb0 := bAlloc (Below.refl w.heap.size w) (.cells #[.slice A x.n c] 81)
  have HR := Lib.hid (hr.mono hb0)
  have HI := Lib.hid (hI.mono hb0)
  have HB := Lib.hid hb0
  have HOK := Lib.hid ok
  have HG := Lib.hid hg
  have HN := Lib.hid hn
  have HQ := Lib.hid hq
  have n4 : n ≤ 4 := by omega
  have x0 : (w.alloc (.cells #[.slice A x.n c] 81)).heap.size = w.heap.size + 1 := by simp
  clear hb0 hr hI ok hg hn hq
  go_enter Tryd.func110, Tryd.ntmps110
  go_wp2_with fail
  clear x0
  go_loopw [5, 10] (fun s i wr => ∃ k : Nat, i = .int .i64 k ∧ k ≤ n ∧ s = .int .i64 (sumTo (fun i => g i * x.fall i q) k) ∧ Below (w.alloc (.cells #[.slice A x.n c] 81)).heap.size (w.alloc (.cells #[.slice A x.n c] 81)) wr) (fun _ i _ => n - (intOf i).toNat)
  case atStart => exact ⟨0, rfl, Nat.zero_le _, rfl, Below.refl _ _⟩
  case round =>
    obtain ⟨k, rfl, hk, rfl, hbel⟩ := hrel
    have HL := Lib.hid hbel
    obtain ⟨bc3, bf3⟩ := bcell hbel
    have hz3 := hbel.size
    simp only [World.size_alloc] at hz3
    have hy3 : w.heap.size < wr.heap.size := by omega
    clear hbel
    obtain ⟨s, hs⟩ : ∃ s, sumTo (fun i => g i * x.fall i q) k = s := ⟨_, rfl⟩
    rw [hs]
    have HS := Lib.hid hs
    by_cases hlt : k < n
    · have hbd : (k : Int) * 0 ≤ s ∧ s ≤ (k : Int) * 81 := by
        rw [← hs]
        refine sumTo_bd fun i hi => ?_
        have h1 := HG.out i (by omega)
        have h2 := HOK.out.n
        have h3 := HOK.out.len i (by have := HN.out; omega)
        have h4 := HOK.out.fall i (by have := HN.out; omega) q (by have := HQ.out; omega)
        exact mul_bd9 h1.1 h1.2 h4.1 h4.2
      have hgk := HG.out k hlt
      obtain ⟨b', o', b'', o'', c'', kk, v, rfl, a4, a5, a6, a7, hv, v0, v1, hm2⟩ := HOK.out.at (HR.out.mono HL.out) (p := k) (q := q) (by omega) (by have := HN.out; omega) (by omega) HQ.out
      obtain ⟨b1, o1, rfl, a8, a9⟩ := (HI.out.mono HL.out).get hlt
      rw [Int.toNat_natCast] at a5
      rw [Int.toNat_natCast] at a7
      rw [Int.toNat_natCast, Int.toNat_natCast] at hv
      have hprod := mul_bd9 hgk.1 hgk.2 v0 v1
      obtain ⟨u, hu⟩ : ∃ u, g k = u := ⟨_, rfl⟩
      rw [hu] at a9 hprod
      have hS1 : sumTo (fun i => g i * x.fall i q) (k + 1) = s + u * v := by
        show sumTo _ k + g k * x.fall k q = _
        rw [hs, hu, hv]
      have HS1 := Lib.hid hS1
      obtain ⟨r, hr⟩ : ∃ r, u * v = r := ⟨_, rfl⟩
      rw [hr] at hprod
      have e1 : IntKind.i64.wrap (u * v) = r := by rw [hr]; exact IntWalk.i64_in _ (by omega)
      have e2 : IntKind.i64.wrap (s + r) = s + r := IntWalk.i64_in _ (by omega)
      have HU := Lib.hid hr
      obtain ⟨xn, hxn⟩ : ∃ xn, x.n = xn := ⟨_, rfl⟩
      have hxk : (k : Int) < (xn : Int) := by have := HOK.out.n; have := HN.out; omega
      have hqk : (q : Int) < (kk : Int) := by have := HQ.out; omega
      have k0 : (0 : Int) ≤ (k : Int) := by omega
      have q0 : (0 : Int) ≤ (q : Int) := by omega
      have k1 : (k : Int) < (n : Int) := by omega
      rw [hxn] at bc3
      clear hs hbd hgk hv v0 v1 hm2 hprod hu hS1 hr hxn
      go_wp2_with fail
      go_region
      go_wp2_with fail
      go_roundw
      case rel =>
        first
        | exact ⟨k + 1, by go_num, by omega, by rw [HS1.out, HU.out], HL.out.drew⟩
        | ((repeat apply Exists.intro)
           refine ⟨⟨k + 1, ?_, by omega, by rw [HS1.out, HU.out], HL.out.drew⟩, rfl⟩
           go_num)
      case measure => simp [intOf]; omega
    · obtain rfl : k = n := by omega
      go_wp2_with fail
      go_ret
      exact ⟨by rw [HS.out]; rfl, bTrans HB.out HL.out⟩
end Go.Proofs.YtchhodikgllgnaaDoor
/- Walks of the reference 05: AreDraws, Lowers. Conditions: lengths are Go's; for Lowers a valid town, draws, a world and a well of it. -/
namespace Go.Proofs.YtchhodikgllgnaaDoor
open Go.RowKit Go.Sort
end Go.Proofs.YtchhodikgllgnaaDoor
/- Walks of the reference 05: Lowers. Conditions: a valid town, draws, a world and a well of it. -/
namespace Go.Proofs.YtchhodikgllgnaaDoor
open Go.RowKit Go.Sort
theorem fallAt_F (t : Qt) (i p q : Nat) : t.fallAt i p q = t.F (i : Int) (p, q) := by
  unfold Qt.fallAt Qt.F
  rw [Int.toNat_natCast, Int.toNat_natCast, Int.toNat_natCast]
end Go.Proofs.YtchhodikgllgnaaDoor
/- Walks of the reference 05: IsBlamed. Conditions: a valid town, draws, a world and wells of it. -/
namespace Go.Proofs.YtchhodikgllgnaaDoor
open Go.RowKit Go.Sort
end Go.Proofs.YtchhodikgllgnaaDoor
/- Walks of the reference 05: IsLaw, Harms. Conditions: lengths are Go's. -/
namespace Go.Proofs.YtchhodikgllgnaaDoor
open Go.RowKit Go.Sort
theorem isLaw5_any (n : Int) (w : World) : Calls Tryd.prog 38 #[.int .i64 n] w fun e w' => e = .returned (.bool (inR n 0 99)) ∧ Below w.heap.size w w' := by
  go_enter Tryd.func38, Tryd.ntmps38
  go_wp2_with fail
  refine (within5_b _ _ _ _ _ rfl).mono ?_
  rintro e w' ⟨rfl, rfl⟩
  go_wp2_with fail
  go_ret
  exact ⟨rfl, Below.refl _ _⟩
theorem KnownOut.ret {w : World} {base : Nat} {t : Qt} {is : Bool} {e : Ending} (h : KnownOut w base t is e) : ∃ v, e = .returned v := by
  obtain ⟨v, h, _⟩ := h
  exact ⟨_, h⟩
end Go.Proofs.YtchhodikgllgnaaDoor
/- Walks of the reference 05: IsTest. No condition. -/
namespace Go.Proofs.YtchhodikgllgnaaDoor
open Go.RowKit Go.Sort
def Qt.testB (t : Qt) (p q : Int) : Bool := t.wellB p && t.wellB q
set_option maxHeartbeats 2000000 in
theorem isTest5_any (Aw Af : Option Addr) (cw cf : Nat) (t : Qt) (p q : Int) (w : World) :
    Calls Tryd.prog 30 #[.agg #[.int .i64 t.wells, .slice Aw t.nw cw, .slice Af t.nf cf], .agg #[.int .i64 p, .int .i64 q]] w fun e w' => e = .returned (.bool (t.testB p q)) ∧ Below w.heap.size w w' := by
  unfold Qt.testB
  obtain ⟨b1, h1⟩ : ∃ b, t.wellB p = b := ⟨_, rfl⟩
  obtain ⟨b2, h2⟩ : ∃ b, t.wellB q = b := ⟨_, rfl⟩
  have HC1 := Lib.hid (fun w => h1 ▸ isWell5_any Aw Af cw cf t p w : ∀ w : World, Calls Tryd.prog 37 #[.agg #[.int .i64 t.wells, .slice Aw t.nw cw, .slice Af t.nf cf], .int .i64 p] w fun e w' => e = .returned (.bool b1) ∧ Below w.heap.size w w')
  have HC2 := Lib.hid (fun w => h2 ▸ isWell5_any Aw Af cw cf t q w : ∀ w : World, Calls Tryd.prog 37 #[.agg #[.int .i64 t.wells, .slice Aw t.nw cw, .slice Af t.nf cf], .int .i64 q] w fun e w' => e = .returned (.bool b2) ∧ Below w.heap.size w w')
  rw [h1, h2]
  clear h1 h2
  have HB := Lib.hid (bAlloc (bAlloc (Below.refl w.heap.size w) (.cells #[.int .i64 t.wells, .slice Aw t.nw cw, .slice Af t.nf cf] 25)) (.cells #[.int .i64 p, .int .i64 q] 27))
  go_enter Tryd.func30, Tryd.ntmps30
  go_wp2_with fail
  refine (HC1.out _).mono ?_
  rintro e w1 ⟨rfl, hb1⟩
  obtain ⟨bc1, bf1⟩ := bcell hb1
  have hz1 := hb1.size
  simp only [World.size_alloc] at hz1
  have hy1 : w.heap.size < w1.heap.size := by omega
  have hy2 : w.heap.size + 1 < w1.heap.size := by omega
  have HB1 := Lib.hid (bTrans HB.out hb1)
  clear hb1
  rcases two_ways b1 b2 with rfl | ⟨rfl, rfl⟩ | ⟨rfl, rfl⟩
  · go_wp2_with fail
    go_ret
    exact ⟨ret_bool (by simp), HB1.out⟩
  all_goals
    go_wp2_with fail
    refine (HC2.out _).mono ?_
    rintro e w2 ⟨rfl, hb2⟩
    have HB2 := Lib.hid (bTrans HB1.out hb2)
    clear hb2
    go_wp2_with fail
    go_ret
    exact ⟨ret_bool (by simp), HB2.out⟩
end Go.Proofs.YtchhodikgllgnaaDoor
/- Walks of the package quarrels: Between, Total. Conditions: lengths are Go's; the listed table holds what it holds. -/
namespace Go.Proofs.YtchhodikgllgnaaDoor
open Go.RowKit Go.Sort
/-- what Between hands back -/
noncomputable def Qt.betweenV (t : Qt) (p q : Int) : Int × Int := if t.knowErr (t.wellB p && t.wellB q) = 0 then t.between p.toNat q.toNat else (0, 0)
end Go.Proofs.YtchhodikgllgnaaDoor
/- Walks of the package quarrels: Total. Conditions: lengths are Go's; the listed table holds what it holds. -/
namespace Go.Proofs.YtchhodikgllgnaaDoor
open Go.RowKit Go.Sort
/-- what Total hands back -/
noncomputable def Qt.totalV (t : Qt) (n : Nat) (g : Nat → Int) (q : Int) : Int × Int := if t.knowErr (t.drawsB n g && t.wellB q) = 0 then spanOf (t.lowers g n q.toNat) t.leftL else (0, 0)
set_option maxHeartbeats 2000000 in
set_option maxRecDepth 100000 in
theorem totalQ_any (Aw Af A : Option Addr) (cw cf c n : Nat) (t : Qt) (g : Nat → Int) (q : Int) (w : World) (hn : n ≤ 9223372036854775807) (hI : IntsAt w A n g) (hs : t.Small) (hT : QAt w Aw Af t) (hB : TabAt w) :
    Calls Tryd.prog 55 #[.agg #[.int .i64 t.wells, .slice Aw t.nw cw, .slice Af t.nf cf], .slice A n c, .int .i64 q] w fun e w' => e = .returned (.tuple #[.agg #[.int .i64 (t.totalV n g q).1, .int .i64 (t.totalV n g q).2], .int .i64 (t.knowErr (t.drawsB n g && t.wellB q))]) ∧ Below w.heap.size w w' := by
  have hb0 := bAlloc (bAlloc (bAlloc (bAlloc (Below.refl w.heap.size w) (.cells #[.int .i64 t.wells, .slice Aw t.nw cw, .slice Af t.nf cf] 25)) (.cells #[.slice A n c] 40)) (.cells #[.int .i64 q] 3)) (.cells #[.int .i64 0, .int .i64 0] 47)
  have HT := Lib.hid (hT.mono hb0)
  have HI := Lib.hid (hI.mono hb0)
  have HTB := Lib.hid (hB.mono hb0)
  have HB := Lib.hid hb0
  clear hT hb0 hB hI
  obtain ⟨b1, h1⟩ : ∃ b, t.drawsB n g = b := ⟨_, rfl⟩
  obtain ⟨b2, h2⟩ : ∃ b, t.wellB q = b := ⟨_, rfl⟩
  have HC1 := Lib.hid (fun w hb => h1 ▸ areDrawsQ_any Aw Af A cw cf c n t g w hn (HI.out.mono hb) : ∀ w' : World, Below ((((w.alloc (.cells #[.int .i64 t.wells, .slice Aw t.nw cw, .slice Af t.nf cf] 25)).alloc (.cells #[.slice A n c] 40)).alloc (.cells #[.int .i64 q] 3)).alloc (.cells #[.int .i64 0, .int .i64 0] 47)).heap.size ((((w.alloc (.cells #[.int .i64 t.wells, .slice Aw t.nw cw, .slice Af t.nf cf] 25)).alloc (.cells #[.slice A n c] 40)).alloc (.cells #[.int .i64 q] 3)).alloc (.cells #[.int .i64 0, .int .i64 0] 47)) w' → Calls Tryd.prog 109 #[.agg #[.int .i64 t.wells, .slice Aw t.nw cw, .slice Af t.nf cf], .slice A n c] w' fun e w'' => e = .returned (.bool b1) ∧ Below w'.heap.size w' w'')
  have HC2 := Lib.hid (fun w => h2 ▸ isWellQ_any Aw Af cw cf t q w : ∀ w : World, Calls Tryd.prog 71 #[.agg #[.int .i64 t.wells, .slice Aw t.nw cw, .slice Af t.nf cf], .int .i64 q] w fun e w' => e = .returned (.bool b2) ∧ Below w.heap.size w w')
  obtain ⟨bb, hbb⟩ : ∃ bb, (b1 && b2) = bb := ⟨_, rfl⟩
  obtain ⟨er, her⟩ : ∃ er, t.knowErr bb = er := ⟨_, rfl⟩
  have HCO := Lib.hid (fun (w' : World) (hb : Below ((((w.alloc (.cells #[.int .i64 t.wells, .slice Aw t.nw cw, .slice Af t.nf cf] 25)).alloc (.cells #[.slice A n c] 40)).alloc (.cells #[.int .i64 q] 3)).alloc (.cells #[.int .i64 0, .int .i64 0] 47)).heap.size ((((w.alloc (.cells #[.int .i64 t.wells, .slice Aw t.nw cw, .slice Af t.nf cf] 25)).alloc (.cells #[.slice A n c] 40)).alloc (.cells #[.int .i64 q] 3)).alloc (.cells #[.int .i64 0, .int .i64 0] 47)) w') => ((openQ_any Aw Af cw cf t bb w' hs (HT.out.mono hb)).mono fun e w'' h => ⟨(her ▸ h.1).lower hb.size, h.2⟩ : Calls Tryd.prog 70 #[.agg #[.int .i64 t.wells, .slice Aw t.nw cw, .slice Af t.nf cf], .bool bb] w' fun e w'' => AskOut w'' ((((w.alloc (.cells #[.int .i64 t.wells, .slice Aw t.nw cw, .slice Af t.nf cf] 25)).alloc (.cells #[.slice A n c] 40)).alloc (.cells #[.int .i64 q] 3)).alloc (.cells #[.int .i64 0, .int .i64 0] 47)).heap.size Aw Af cw cf t er e ∧ Below w'.heap.size w' w''))
  have HE := Lib.hid (show t.knowErr (t.drawsB n g && t.wellB q) = er by rw [h1, h2, hbb, her])
  have HSV := Lib.hid (show t.totalV n g q = if er = 0 then spanOf (t.lowers g n q.toNat) t.leftL else (0, 0) by unfold Qt.totalV; rw [h1, h2, hbb, her])
  rw [HE.out, HSV.out]
  have HKE := Lib.hid her
  have HG := Lib.hid hbb
  have HW1 := Lib.hid h1
  have HW2 := Lib.hid h2
  clear h1 h2 her hbb HE HSV
  by_cases he : er = 0
  · subst he
    obtain ⟨ok, rfl, hne⟩ := knowErr_zero HKE.out
    have hg := HG.out
    simp only [Bool.and_eq_true] at hg
    obtain ⟨rfl, rfl⟩ := hg
    have hp := drawsB_iff.1 HW1.out
    have hq := inR_iff.1 ((wellB_ok ok q).symm.trans HW2.out)
    obtain ⟨j, rfl⟩ : ∃ j : Nat, q = (j : Int) := ⟨q.toNat, by omega⟩
    have HP := Lib.hid hp
    have HQ := Lib.hid (show (j : Int) < t.wells by omega)
    have HOK := Lib.hid ok
    rw [if_pos rfl, Int.toNat_natCast]
    obtain ⟨lo, hlo⟩ : ∃ lo, (spanOf (t.lowers g n j) t.leftL).1 = lo := ⟨_, rfl⟩
    obtain ⟨hi, hhi⟩ : ∃ hi, (spanOf (t.lowers g n j) t.leftL).2 = hi := ⟨_, rfl⟩
    have HLO := Lib.hid (show spanN (fun k => t.lowers g n j (intL0 t.leftL k)) t.leftL.length = (lo, hi) from Prod.ext hlo hhi)
    rw [hlo, hhi]
    clear hp hq hne ok hlo hhi
    go_enter Tryd.func55, Tryd.ntmps55
    go_wp2_with fail
    refine wp_region_call 9 (fun v w2 => AskOut w2 ((((w.alloc (.cells #[.int .i64 t.wells, .slice Aw t.nw cw, .slice Af t.nf cf] 25)).alloc (.cells #[.slice A n c] 40)).alloc (.cells #[.int .i64 (j : Int)] 3)).alloc (.cells #[.int .i64 0, .int .i64 0] 47)).heap.size Aw Af cw cf t 0 (.returned v) ∧ Below ((((w.alloc (.cells #[.int .i64 t.wells, .slice Aw t.nw cw, .slice Af t.nf cf] 25)).alloc (.cells #[.slice A n c] 40)).alloc (.cells #[.int .i64 (j : Int)] 3)).alloc (.cells #[.int .i64 0, .int .i64 0] 47)).heap.size ((((w.alloc (.cells #[.int .i64 t.wells, .slice Aw t.nw cw, .slice Af t.nf cf] 25)).alloc (.cells #[.slice A n c] 40)).alloc (.cells #[.int .i64 (j : Int)] 3)).alloc (.cells #[.int .i64 0, .int .i64 0] 47)) w2) (by kernel_rfl) (by decide +kernel) rfl ?_
    apply Exists.intro
    refine ⟨fun K hK => ?_, ?_, fun w1 hb1 K Q' hK => ?_, ?_⟩
    · skip
      repeat (first | (refine wpCalm_skip rfl ?_) | (refine wpCalm_step rfl (fun K hK => ?_); go_simp; (first | (refine hK _ ?_; clear hK K) | (apply Exists.intro; refine ⟨fun _ => ?_, hK _ ?_⟩; ((first | (go_at_call 109; with_reducible exact newer_of (HC1.out _ (below_regrown _ _ _))) | (go_at_call 71; with_reducible exact newer_of (HC2.out _)))); clear hK K))))
      refine wpCalm_nil ?_
      exact hK
    · rfl
    · go_simp
      refine (HCO.out w1 hb1).mono ?_
      rintro e w2 ⟨ho, hb2⟩
      obtain ⟨v, rfl⟩ := AskOut.ret ho
      exact hK v w2 ⟨ho, bTrans hb1 hb2⟩
    rintro v w2 ⟨ho, hb2⟩
    obtain ⟨C, mp, e1, hc, hC, hmp, hmb⟩ := ho.2 rfl
    obtain rfl := Ending.returned.inj e1
    have HCT2 := Lib.hid hc
    have HMP2 := Lib.hid hmp
    have HCB := Lib.hid hC
    have HMB := Lib.hid hmb
    have HB2 := Lib.hid hb2
    clear ho hb2 hc e1 hC hmp hmb
    apply Exists.intro
    refine ⟨fun K hK => ?_, fun w3 hb3 => ?_⟩
    · skip
      repeat (first | (refine wpCalm_skip rfl ?_) | (refine wpCalm_step rfl (fun K hK => ?_); go_simp; (first | (refine hK _ ?_; clear hK K) | (apply Exists.intro; refine ⟨fun _ => ?_, hK _ ?_⟩; (fail); clear hK K))))
      refine wpCalm_nil ?_
      exact hK
    have HCT := Lib.hid (HCT2.out.mono hb3)
    have HMP := Lib.hid ((hb3.block mp (Array.getElem?_eq_some_iff.1 HMP2.out).1).trans HMP2.out)
    have HB3 := Lib.hid (bTrans HB2.out hb3)
    clear hb3 HCT2 HMP2
    have HCC := Lib.hid (span_any Aw Af cw cf C mp _ t 110 #[.pointer (some ⟨w.heap.size + 1, 0, none⟩), .pointer (some ⟨w.heap.size + 1 + 1, 0, none⟩)] (fun k => t.lowers g n j (intL0 t.leftL k)) w3 HCT.out (mask_64 t HOK.out.nw) (bits_mask t HOK.out.nw) HOK.out.nw (HT.out.mono HB3.out) (HTB.out.mono HB3.out) (enters_of Tryd.func110 (by kernel_rfl)) (fun k i' hk hi w' hb A' c' hr => by
      have hbb := bTrans HB3.out hb
      have h1 : w'.cell? ⟨w.heap.size + 1, 0, none⟩ = some (.slice A n c) := (hbb.cell (p := ⟨w.heap.size + 1, 0, none⟩) (by simp <;> omega)).trans (by simp [go_sem])
      have h2 : w'.cell? ⟨w.heap.size + 1 + 1, 0, none⟩ = some (.int .i64 j) := (hbb.cell (p := ⟨w.heap.size + 1 + 1, 0, none⟩) (by simp)).trans (by simp [go_sem])
      have hz := hbb.size
      simp only [World.size_alloc] at hz
      have := total1Q_any A' A c' c (w.heap.size + 1) (w.heap.size + 1 + 1) n t.wells (t.world i') g j w' HOK.out.w1 (HOK.out.world i' hi) HP.out.1 HP.out.2 HQ.out hr (HI.out.mono hbb) (by omega) h1 (by omega) h2
      rw [← numAt_of hk] at this
      rw [← numAt_of hk]
      exact this))
    rw [HLO.out] at HCC
    obtain ⟨bc3, bf3⟩ := bcell HB3.out
    have hz3 := HB3.out.size
    simp only [World.size_alloc] at hz3
    clear HLO
    go_wp2_with fail
    refine HCC.out.mono ?_
    rintro e w4 ⟨rfl, hb4⟩
    have HB4 := Lib.hid (bTrans HB3.out hb4)
    obtain ⟨bc4, bf4⟩ := bcell HB4.out
    have hz4 := HB4.out.size
    simp only [World.size_alloc] at hz4
    clear hb4 bc3 bf3
    go_wp2_with fail
    refine bodyPost_ret (v := .tuple #[.agg #[.int .i64 lo, .int .i64 hi], .int .i64 0]) (by simp [results, Tryd.results55, go_sem, *]) rfl ⟨rfl, ?_⟩
    exact Below.setCell (p := ⟨w.heap.size + 1 + 1 + 1, 1, none⟩) (Below.setCell (p := ⟨w.heap.size + 1 + 1 + 1, 0, none⟩) (bTrans HB.out HB4.out) (by simp <;> omega) (.int .i64 lo)) (by simp <;> omega) (.int .i64 hi)
  · have g0 : (er != 0) = true := by simp [he]
    have HNZ := Lib.hid he
    rw [if_neg he]
    clear he
    go_enter Tryd.func55, Tryd.ntmps55
    go_wp2_with fail
    rcases two_ways b1 b2 with rfl | ⟨rfl, rfl⟩ | ⟨rfl, rfl⟩
    all_goals
      obtain rfl := HG.out
      refine wp_region_call 9 (fun v w2 => AskOut w2 ((((w.alloc (.cells #[.int .i64 t.wells, .slice Aw t.nw cw, .slice Af t.nf cf] 25)).alloc (.cells #[.slice A n c] 40)).alloc (.cells #[.int .i64 q] 3)).alloc (.cells #[.int .i64 0, .int .i64 0] 47)).heap.size Aw Af cw cf t er (.returned v) ∧ Below ((((w.alloc (.cells #[.int .i64 t.wells, .slice Aw t.nw cw, .slice Af t.nf cf] 25)).alloc (.cells #[.slice A n c] 40)).alloc (.cells #[.int .i64 q] 3)).alloc (.cells #[.int .i64 0, .int .i64 0] 47)).heap.size ((((w.alloc (.cells #[.int .i64 t.wells, .slice Aw t.nw cw, .slice Af t.nf cf] 25)).alloc (.cells #[.slice A n c] 40)).alloc (.cells #[.int .i64 q] 3)).alloc (.cells #[.int .i64 0, .int .i64 0] 47)) w2) (by kernel_rfl) (by decide +kernel) rfl ?_
      apply Exists.intro
      refine ⟨fun K hK => ?_, ?_, fun w1 hb1 K Q' hK => ?_, ?_⟩
      · skip
        repeat (first | (refine wpCalm_skip rfl ?_) | (refine wpCalm_step rfl (fun K hK => ?_); go_simp; (first | (refine hK _ ?_; clear hK K) | (apply Exists.intro; refine ⟨fun _ => ?_, hK _ ?_⟩; ((first | (go_at_call 109; with_reducible exact newer_of (HC1.out _ (below_regrown _ _ _))) | (go_at_call 71; with_reducible exact newer_of (HC2.out _)))); clear hK K))))
        refine wpCalm_nil ?_
        exact hK
      · rfl
      · go_simp
        refine (HCO.out w1 hb1).mono ?_
        rintro e w2 ⟨ho, hb2⟩
        obtain ⟨v, rfl⟩ := AskOut.ret ho
        exact hK v w2 ⟨ho, bTrans hb1 hb2⟩
      rintro v w2 ⟨ho, hb2⟩
      obtain rfl := Ending.returned.inj (ho.1 HNZ.out)
      have HB2 := Lib.hid hb2
      clear ho hb2
      apply Exists.intro
      refine ⟨fun K hK => ?_, fun w3 hb3 => ?_⟩
      · skip
        repeat (first | (refine wpCalm_skip rfl ?_) | (refine wpCalm_step rfl (fun K hK => ?_); go_simp; (first | (refine hK _ ?_; clear hK K) | (apply Exists.intro; refine ⟨fun _ => ?_, hK _ ?_⟩; (fail); clear hK K))))
        refine wpCalm_nil ?_
        exact hK
      have HB3 := Lib.hid (bTrans HB2.out hb3)
      clear hb3
      obtain ⟨bc3, bf3⟩ := bcell HB3.out
      have hz3 := HB3.out.size
      simp only [World.size_alloc] at hz3
      go_wp2_with fail
      refine bodyPost_ret (v := .tuple #[.agg #[.int .i64 0, .int .i64 0], .int .i64 er]) (by simp [results, Tryd.results55, go_sem, *]) rfl ⟨rfl, ?_⟩
      exact Below.setCell (p := ⟨w.heap.size + 1 + 1 + 1, 1, none⟩) (Below.setCell (p := ⟨w.heap.size + 1 + 1 + 1, 0, none⟩) (bTrans HB.out HB3.out) (by simp <;> omega) (.int .i64 0)) (by simp <;> omega) (.int .i64 0)
end Go.Proofs.YtchhodikgllgnaaDoor
/- The walk of Blame of the package quarrels. Conditions: lengths are Go's; the listed table holds what it holds. -/
namespace Go.Proofs.YtchhodikgllgnaaDoor
open Go.RowKit Go.Sort
end Go.Proofs.YtchhodikgllgnaaDoor
/- The walk of Blame of the package quarrels, whatever it is handed. Conditions: lengths are Go's; the listed table holds what it holds. -/
namespace Go.Proofs.YtchhodikgllgnaaDoor
open Go.RowKit Go.Sort
end Go.Proofs.YtchhodikgllgnaaDoor
/- Walks of the reference 05: Blame. Conditions: lengths are Go's. -/
namespace Go.Proofs.YtchhodikgllgnaaDoor
open Go.RowKit Go.Sort
end Go.Proofs.YtchhodikgllgnaaDoor
/- Walks of math/bits.OnesCount of small numbers; of the package quarrels: many, shows. Conditions: a number below 64; of shows: a valid town. -/
namespace Go.Proofs.YtchhodikgllgnaaDoor
open Go.RowKit Go.Sort
/-- how the bits are counted -/
def onesE (s : Nat) : Int :=
  let a := IntKind.u64.wrap (bits BinOp.and IntKind.u64 ((s : Int) / 2) 6148914691236517205 + bits BinOp.and IntKind.u64 (s : Int) 6148914691236517205)
  let b := IntKind.u64.wrap (bits BinOp.and IntKind.u64 (a / 4) 3689348814741910323 + bits BinOp.and IntKind.u64 a 3689348814741910323)
  let c := bits BinOp.and IntKind.u64 (IntKind.u64.wrap (b / 16 + b)) 1085102592571150095
  let d := IntKind.u64.wrap (c + c / 256)
  let e := IntKind.u64.wrap (d + d / 65536)
  let f := IntKind.u64.wrap (e + e / 4294967296)
  bits BinOp.and IntKind.i64 (wrap64 f) 127
theorem ones_fact : ∀ s : Nat, s < 64 → onesE s = ((bitsL s).length : Int) := by decide +kernel
theorem ones64_any (s : Nat) (w : World) (h1 : s < 64) :
    Calls Tryd.prog 132 #[.int .u64 s] w fun e w' => e = .returned (.int .i64 ((bitsL s).length : Int)) ∧ w = w' := by
  obtain ⟨a, ha⟩ : ∃ a, IntKind.u64.wrap (bits BinOp.and IntKind.u64 ((s : Int) / 2) 6148914691236517205 + bits BinOp.and IntKind.u64 (s : Int) 6148914691236517205) = a := ⟨_, rfl⟩
  obtain ⟨b, hb⟩ : ∃ b, IntKind.u64.wrap (bits BinOp.and IntKind.u64 (a / 4) 3689348814741910323 + bits BinOp.and IntKind.u64 a 3689348814741910323) = b := ⟨_, rfl⟩
  obtain ⟨c, hc⟩ : ∃ c, bits BinOp.and IntKind.u64 (IntKind.u64.wrap (b / 16 + b)) 1085102592571150095 = c := ⟨_, rfl⟩
  obtain ⟨d, hd⟩ : ∃ d, IntKind.u64.wrap (c + c / 256) = d := ⟨_, rfl⟩
  obtain ⟨f, hf⟩ : ∃ f, IntKind.u64.wrap (d + d / 65536) = f := ⟨_, rfl⟩
  obtain ⟨g, hg⟩ : ∃ g, IntKind.u64.wrap (f + f / 4294967296) = g := ⟨_, rfl⟩
  obtain ⟨r, hr⟩ : ∃ r, bits BinOp.and IntKind.i64 (wrap64 g) 127 = r := ⟨_, rfl⟩
  have HR := Lib.hid (show r = ((bitsL s).length : Int) by rw [← ones_fact s h1, ← hr, ← hg, ← hf, ← hd, ← hc, ← hb, ← ha]; rfl)
  rw [← HR.out]
  go_enter Tryd.func132, Tryd.ntmps132
  go_wp2_with fail
  go_ret
  exact ⟨rfl, rfl⟩
theorem ones_any (s : Nat) (w : World) (h1 : s < 64) :
    Calls Tryd.prog 116 #[.int .u64 s] w fun e w' => e = .returned (.int .i64 ((bitsL s).length : Int)) ∧ w = w' := by
  go_enter Tryd.func116, Tryd.ntmps116
  go_wp2_with fail
  refine (ones64_any s _ h1).mono ?_
  rintro e w' ⟨rfl, rfl⟩
  go_wp2_with fail
  go_ret
  exact ⟨rfl, rfl⟩
theorem many_any (s : Nat) (w : World) (h1 : s < 64) :
    Calls Tryd.prog 73 #[.int .u64 s] w fun e w' => e = .returned (.int .i64 ((bitsL s).length : Int)) ∧ w = w' := by
  go_enter Tryd.func73, Tryd.ntmps73
  go_wp2_with fail
  refine (ones_any s _ h1).mono ?_
  rintro e w' ⟨rfl, rfl⟩
  go_wp2_with fail
  go_ret
  exact ⟨rfl, rfl⟩
set_option maxHeartbeats 2000000 in
theorem shows_any (Aw Af : Option Addr) (cw cf C mp s : Nat) (t : Qt) (p q i : Nat) (w : World) (hc : CourtAt w C Aw Af cw cf t s mp) (ok : t.Ok) (hp : (p : Int) < t.wells) (hq : (q : Int) < t.wells) (hi : i < t.nw) (hT : QAt w Aw Af t) :
    Calls Tryd.prog 114 #[.pointer (some ⟨C, 0, none⟩), .agg #[.int .i64 p, .int .i64 q], .int .i64 i] w fun e w' => e = .returned (.int .i64 (t.F i (p, q))) ∧ Below w.heap.size w w' := by
  obtain ⟨b, o, b', o', c', b'', o'', c'', n, m, v, rfl, a2, a3, a4, a5, a6, a7, hv, v0, v1, hn, hm⟩ := ok.at hT hi (p := p) (q := q) (by omega) hp (by omega) hq
  rw [Int.toNat_natCast] at a5
  rw [Int.toNat_natCast] at a7
  have HV := Lib.hid (show t.F i (p, q) = v from hv.symm)
  have HB := Lib.hid (bAlloc (Below.refl w.heap.size w) (.cells #[.int .i64 p, .int .i64 q] 27))
  have x0 := hc.box.lt
  have y0 := hc.box.cell 1 _ rfl
  have p1 : (p : Int) < (n : Int) := by omega
  have p0 : (0 : Int) ≤ (p : Int) := by omega
  have q1 : (q : Int) < (m : Int) := by omega
  have q0 : (0 : Int) ≤ (q : Int) := by omega
  have i1 : (i : Int) < (t.nw : Int) := by omega
  have i0 : (0 : Int) ≤ (i : Int) := by omega
  clear hv hn hm hi hp hq ok hT hc
  go_enter Tryd.func114, Tryd.ntmps114
  go_wp2_with fail
  go_region
  go_wp2_with fail
  go_ret
  exact ⟨by rw [HV.out]; rfl, HB.out.drew⟩
end Go.Proofs.YtchhodikgllgnaaDoor
/- The walk of behind of the package quarrels. Conditions: a valid town; the listed table holds what it holds. -/
namespace Go.Proofs.YtchhodikgllgnaaDoor
open Go.RowKit Go.Sort
/-- a bit for each of some numbers -/
def maskL (l : List Int) : Nat := l.foldl (fun m i => m ||| 2 ^ i.toNat) 0
theorem maskL_snoc (l : List Int) (i : Int) : maskL (l ++ [i]) = maskL l ||| 2 ^ i.toNat := by simp [maskL]
theorem maskL_bitG (j : Nat) : ∀ (l : List Int) (a : Nat), (l.foldl (fun m i => m ||| 2 ^ i.toNat) a).testBit j = (a.testBit j || l.any fun i => i.toNat == j)
  | [], a => by simp
  | x :: l, a => by
    rw [List.foldl_cons, maskL_bitG j l, Nat.testBit_or, List.any_cons]
    by_cases h : x.toNat = j
    · subst h
      simp [Nat.testBit_two_pow_self]
    · rw [Nat.testBit_two_pow_of_ne h, beq_eq_false_iff_ne.2 h]
      simp
theorem maskL_bit (l : List Int) (j : Nat) : (maskL l).testBit j = l.any fun i => i.toNat == j := by
  unfold maskL
  rw [maskL_bitG]
  simp
theorem maskL_lt {l : List Int} (h : ∀ x, x ∈ l → x.toNat < 6) : maskL l < 64 := by
  have key : ∀ (l : List Int) (a : Nat), a < 2 ^ 6 → (∀ x, x ∈ l → x.toNat < 6) → l.foldl (fun m i => m ||| 2 ^ i.toNat) a < 2 ^ 6 := by
    intro l
    induction l with
    | nil => intro a ha _; exact ha
    | cons x l ih =>
      intro a ha hx
      rw [List.foldl_cons]
      exact ih _ (Nat.or_lt_two_pow ha (Nat.pow_lt_pow_right (by decide) (hx x (by simp)))) fun y hy => hx y (by simp [hy])
  exact key l 0 (by decide) h
theorem selTo_mem {p : Nat → Bool} {x : Int} : ∀ {n : Nat}, x ∈ selTo p n ↔ ∃ i : Nat, i < n ∧ p i = true ∧ x = i
  | 0 => by simp [selTo]
  | n + 1 => by
    have ih := selTo_mem (p := p) (x := x) (n := n)
    unfold selTo
    constructor
    · intro h
      split at h
      · rename_i hp
        rw [List.mem_append, ih] at h
        rcases h with ⟨i, h1, h2, h3⟩ | h
        · exact ⟨i, by omega, h2, h3⟩
        · exact ⟨n, by omega, hp, by simpa using h⟩
      · obtain ⟨i, h1, h2, h3⟩ := ih.1 h
        exact ⟨i, by omega, h2, h3⟩
    · rintro ⟨i, h1, h2, h3⟩
      rcases Nat.lt_or_ge i n with h4 | h4
      · have := ih.2 ⟨i, h4, h2, h3⟩
        split
        · rw [List.mem_append]; exact .inl this
        · exact this
      · obtain rfl : i = n := by omega
        rw [if_pos h2, List.mem_append]
        exact .inr (by simp [h3])
theorem selTo_filter (p : Nat → Bool) (r : Int → Bool) : ∀ n, (selTo p n).filter r = selTo (fun j => p j && r (j : Int)) n
  | 0 => rfl
  | n + 1 => by
    have ih := selTo_filter p r n
    unfold selTo
    by_cases hp : p n = true
    · rw [if_pos hp, List.filter_append, ih]
      by_cases hr : r (n : Int) = true
      · simp [hp, hr]
      · simp [hr]
    · rw [if_neg hp, ih]
      simp [hp]
theorem bits_maskL (p : Nat → Bool) : bitsL (maskL (selTo p 6)) = selTo p 6 := by
  unfold bitsL
  refine selTo_congr 6 fun j hj => ?_
  rw [maskL_bit]
  cases h : p j with
  | true => exact List.any_eq_true.2 ⟨(j : Int), selTo_mem.2 ⟨j, hj, h, rfl⟩, by simp⟩
  | false =>
    rw [List.any_eq_false]
    intro x hx
    obtain ⟨i, h1, h2, rfl⟩ := selTo_mem.1 hx
    simp
    rintro rfl
    rw [h] at h2
    cases h2
theorem bitsL_mem {s : Nat} {x : Int} : x ∈ bitsL s ↔ ∃ i : Nat, i < 6 ∧ s.testBit i = true ∧ x = i := selTo_mem
theorem shown_sel (t : Qt) (x : Tp) (s : Nat) (f : Int) : t.shown x (bitsL s) f = selTo (fun j => s.testBit j && (t.F (j : Int) x == f)) 6 := selTo_filter _ _ 6
theorem bits_shown (t : Qt) (x : Tp) (s : Nat) (f : Int) : bitsL (maskL (t.shown x (bitsL s) f)) = t.shown x (bitsL s) f := by rw [shown_sel]; exact bits_maskL _
theorem shown_64 (t : Qt) (x : Tp) (s : Nat) (f : Int) : maskL (t.shown x (bitsL s) f) < 64 := maskL_lt fun y hy => by
  obtain ⟨i, h1, _, rfl⟩ := bitsL_mem.1 (List.mem_filter.1 hy).1
  simpa using h1
theorem mask_bits : ∀ s : Nat, s < 64 → maskL (bitsL s) = s := by decide +kernel
theorem shown_same (t : Qt) (x : Tp) {s : Nat} (hs : s < 64) (f : Int) : (maskL (t.shown x (bitsL s) f) = s) ↔ t.shown x (bitsL s) f = bitsL s :=
  ⟨fun h => by rw [← bits_shown, h], fun h => by rw [h, mask_bits s hs]⟩
/-- an array of ten masks -/
structure ArrAt (w : World) (B : Nat) (m : Nat → Nat) : Prop where
  lt : B < w.heap.size
  cell : ∀ f, f < 10 → w.cell? ⟨B, f, none⟩ = some (.int .u64 (m f : Int))
  frz : ∀ o, w.frozen? ⟨B, o, none⟩ = false
theorem ArrAt.mono {w w' : World} {B : Nat} {m : Nat → Nat} (h : ArrAt w B m) (hb : Below w.heap.size w w') : ArrAt w' B m :=
  ⟨Nat.lt_of_lt_of_le h.lt hb.size, fun f hf => (hb.cell (p := ⟨B, f, none⟩) h.lt).trans (h.cell f hf), fun o => (hb.frozen (p := ⟨B, o, none⟩) h.lt).trans (h.frz o)⟩
theorem ArrAt.put {w : World} {B : Nat} {m m' : Nat → Nat} (h : ArrAt w B m) {f : Nat} (hf : f < 10) {u : Nat} (hu : m' f = u) (ho : ∀ g, g ≠ f → m' g = m g) : ArrAt (w.setCell ⟨B, f, none⟩ (.int .u64 (u : Int))) B m' :=
  ⟨by simpa [World.setCell] using h.lt, fun g hg => by
    by_cases e : g = f
    · subst e
      rw [hu]
      exact World.cell?_setCell_same _ _ _ (h.cell g hg)
    · rw [ho g e]
      exact (World.cell?_setCell_other _ _ _ _ (fun e' => by injection e' with _ e'; exact e e'.symm)).trans (h.cell g hg), fun o => by rw [World.frozen?_setCell]; exact h.frz o⟩
/-- what behind hands back -/
def behM (t : Qt) (x : Tp) (s f : Nat) : Nat := maskL (t.shown x (bitsL s) f)
def behV (t : Qt) (x : Tp) (s : Nat) : Value := .agg #[.int .u64 (behM t x s 0), .int .u64 (behM t x s 1), .int .u64 (behM t x s 2), .int .u64 (behM t x s 3), .int .u64 (behM t x s 4), .int .u64 (behM t x s 5), .int .u64 (behM t x s 6), .int .u64 (behM t x s 7), .int .u64 (behM t x s 8), .int .u64 (behM t x s 9)]
/-- after k of the worlds -/
def behK (t : Qt) (x : Tp) (s k f : Nat) : Nat := maskL (((bitsL s).take k).filter fun w => t.F w x == (f : Int))
theorem behK_zero (t : Qt) (x : Tp) (s f : Nat) : behK t x s 0 f = 0 := by simp [behK, maskL]
theorem behK_all (t : Qt) (x : Tp) (s f : Nat) : behK t x s (bitsL s).length f = behM t x s f := by
  unfold behK behM Qt.shown
  rw [List.take_length]
theorem behK_hit (t : Qt) (x : Tp) (s k f i : Nat) (hk : (bitsL s)[k]? = some (i : Int)) (hf : t.F i x = f) : behK t x s (k + 1) f = behK t x s k f ||| 2 ^ i := by
  unfold behK
  rw [List.take_add_one, hk]
  simp only [Option.toList_some, List.filter_append]
  rw [List.filter_cons, if_pos (by rw [hf]; simp)]
  rw [List.filter_nil, maskL_snoc, Int.toNat_natCast]
theorem behK_miss (t : Qt) (x : Tp) (s k f i : Nat) (hk : (bitsL s)[k]? = some (i : Int)) (hf : t.F i x ≠ f) : behK t x s (k + 1) f = behK t x s k f := by
  unfold behK
  rw [List.take_add_one, hk]
  simp only [Option.toList_some, List.filter_append]
  rw [List.filter_cons, if_neg (by simpa using hf)]
  simp
theorem behK_64 (t : Qt) (x : Tp) (s k f : Nat) : behK t x s k f < 64 := maskL_lt fun y hy => by
  obtain ⟨i, h1, _, rfl⟩ := bitsL_mem.1 (List.mem_of_mem_take (List.mem_filter.1 hy).1)
  simpa using h1
theorem set10 {base B : Nat} {w w' : World} (h : Below base w w') (hB : base ≤ B) (v0 v1 v2 v3 v4 v5 v6 v7 v8 v9 : Value) : Below base w ((((((((((w'.setCell ⟨B, 0, none⟩ v0).setCell ⟨B, 1, none⟩ v1).setCell ⟨B, 2, none⟩ v2).setCell ⟨B, 3, none⟩ v3).setCell ⟨B, 4, none⟩ v4).setCell ⟨B, 5, none⟩ v5).setCell ⟨B, 6, none⟩ v6).setCell ⟨B, 7, none⟩ v7).setCell ⟨B, 8, none⟩ v8).setCell ⟨B, 9, none⟩ v9) :=
  ((((((((((h.setCell (p := ⟨B, 0, none⟩) hB v0).setCell (p := ⟨B, 1, none⟩) hB v1).setCell (p := ⟨B, 2, none⟩) hB v2).setCell (p := ⟨B, 3, none⟩) hB v3).setCell (p := ⟨B, 4, none⟩) hB v4).setCell (p := ⟨B, 5, none⟩) hB v5).setCell (p := ⟨B, 6, none⟩) hB v6).setCell (p := ⟨B, 7, none⟩) hB v7).setCell (p := ⟨B, 8, none⟩) hB v8).setCell (p := ⟨B, 9, none⟩) hB v9)
set_option maxHeartbeats 4000000 in
set_option maxRecDepth 100000 in
theorem behind_any (Aw Af : Option Addr) (cw cf C mp s0 s : Nat) (t : Qt) (p q : Nat) (w : World) (hc : CourtAt w C Aw Af cw cf t s0 mp) (ok : t.Ok) (h64 : s < 64) (hsub : ∀ i : Nat, s.testBit i = true → i < t.nw) (hp : (p : Int) < t.wells) (hq : (q : Int) < t.wells) (hT : QAt w Aw Af t) (hB : TabAt w) :
    Calls Tryd.prog 72 #[.pointer (some ⟨C, 0, none⟩), .int .u64 s, .agg #[.int .i64 p, .int .i64 q]] w fun e w' => e = .returned (behV t (p, q) s) ∧ Below w.heap.size w w' := by
  have hb2 := bAlloc (bAlloc (Below.refl w.heap.size w) (.cells #[.int .i64 p, .int .i64 q] 27)) (.cells #[.int .u64 0, .int .u64 0, .int .u64 0, .int .u64 0, .int .u64 0, .int .u64 0, .int .u64 0, .int .u64 0, .int .u64 0, .int .u64 0] 94)
  have HCT := Lib.hid hc
  have HT := Lib.hid hT
  have HTB := Lib.hid (hB.mono hb2)
  have HOK := Lib.hid ok
  have HSUB := Lib.hid hsub
  have HP := Lib.hid hp
  have HQ := Lib.hid hq
  have HB := Lib.hid hb2
  clear hc hT hB hb2 ok hsub hp hq
  go_enter Tryd.func72, Tryd.ntmps72
  go_wp2_with fail
  refine (list_any s _ h64 HTB.out).mono ?_
  rintro e w2 ⟨⟨v, rfl, hv⟩, hb2⟩
  obtain ⟨A, c, rfl, hrow⟩ := hv.nums
  have HV := Lib.hid (hv.lower (show w.heap.size + 2 ≤ _ by simp))
  have hbA := bTrans (bAlloc (Below.refl (w.alloc (.cells #[.int .i64 p, .int .i64 q] 27)).heap.size (w.alloc (.cells #[.int .i64 p, .int .i64 q] 27))) (.cells #[.int .u64 0, .int .u64 0, .int .u64 0, .int .u64 0, .int .u64 0, .int .u64 0, .int .u64 0, .int .u64 0, .int .u64 0, .int .u64 0] 94)) hb2
  have HBA := Lib.hid hbA
  have HX2 := Lib.hid (ArrAt.mono (w := (w.alloc (.cells #[.int .i64 p, .int .i64 q] 27)).alloc (.cells #[.int .u64 0, .int .u64 0, .int .u64 0, .int .u64 0, .int .u64 0, .int .u64 0, .int .u64 0, .int .u64 0, .int .u64 0, .int .u64 0] 94)) (B := w.heap.size + 1) (m := behK t (p, q) s 0) ⟨by simp, fun f hf => by
    rw [behK_zero]
    rcases (by omega : f = 0 ∨ f = 1 ∨ f = 2 ∨ f = 3 ∨ f = 4 ∨ f = 5 ∨ f = 6 ∨ f = 7 ∨ f = 8 ∨ f = 9) with rfl | rfl | rfl | rfl | rfl | rfl | rfl | rfl | rfl | rfl <;> simp [go_sem], fun o => by simp [go_sem]⟩ hb2)
  obtain ⟨n, hn⟩ : ∃ n, (bitsL s).length = n := ⟨_, rfl⟩
  have hn6 : n ≤ 6 := by rw [← hn]; exact bitsL_len s
  rw [hn]
  have HN := Lib.hid hn
  clear hv hrow hb2 hbA hn
  go_wp2_with fail
  go_loopw [12] (fun i wr => ∃ k : Nat, i = .int .i64 k ∧ k ≤ n ∧ ArrAt wr (w.heap.size + 1) (behK t (p, q) s k) ∧ OwnL wr (w.heap.size + 2) (.slice A n c) (bitsL s) ∧ Below (w.heap.size + 1) (w.alloc (.cells #[.int .i64 p, .int .i64 q] 27)) wr) (fun i _ => n - (intOf i).toNat)
  case atStart => exact ⟨0, rfl, Nat.zero_le _, HX2.out, HN.out ▸ HV.out, by have := HBA.out; simpa using this⟩
  case round =>
    obtain ⟨k, rfl, hk, hX, hO, hbel⟩ := hrel
    have HX := Lib.hid hX
    have HO := Lib.hid hO
    have HL := Lib.hid hbel
    have hbw : Below w.heap.size w wr := bTrans (bAlloc (Below.refl w.heap.size w) (.cells #[.int .i64 p, .int .i64 q] 27)) (by simpa using hbel)
    have HBW := Lib.hid hbw
    have hsz := hbel.size
    simp only [World.size_alloc] at hsz
    have hca := (hbel.cell (p := ⟨w.heap.size, 0, none⟩) (by simp)).trans (show _ = some (.int .i64 p) by simp [go_sem])
    have hcb := (hbel.cell (p := ⟨w.heap.size, 1, none⟩) (by simp)).trans (show _ = some (.int .i64 q) by simp [go_sem])
    have hyw : w.heap.size < wr.heap.size := by omega
    clear hX hO hbel
    by_cases hlt : k < n
    · obtain ⟨x, hx⟩ : ∃ x, (bitsL s)[k]? = some x := ⟨_, List.getElem?_eq_getElem (by rw [HN.out]; exact hlt)⟩
      obtain ⟨i, hi6, hbit, rfl⟩ := bitsL_mem.1 (List.mem_of_getElem? hx)
      have hi := HSUB.out i hbit
      obtain ⟨A1, c1, e1, hrow⟩ := HO.out.nums
      injection e1 with e1 e3 e2
      clear e3
      subst e1 e2
      obtain ⟨b, o, rfl, hbs, c0⟩ := hrow.num hx
      have hF := fallAt_bd HOK.out hi (p := p) (q := q) (by omega) HP.out (by omega) HQ.out
      obtain ⟨f, hf⟩ : ∃ f : Nat, t.F i (p, q) = (f : Int) := ⟨(t.F i (p, q)).toNat, by have := hF.1; show (t.world i).fall p q = _; simp only [Qt.fallAt, Int.toNat_natCast] at hF; show _ = (((t.world i).fall p q).toNat : Int); omega⟩
      have hf9 : f < 10 := by
        have h1 : t.F i (p, q) = (t.world i).fall p q := rfl
        simp only [Qt.fallAt, Int.toNat_natCast] at hF
        omega
      have HCS := Lib.hid (fun (w' : World) (hb : Below wr.heap.size wr w') => (hf ▸ shows_any Aw Af cw cf C mp s0 t p q i w' ((HCT.out.mono hbw).mono hb) HOK.out HP.out HQ.out hi ((HT.out.mono hbw).mono hb) : Calls Tryd.prog 114 #[.pointer (some ⟨C, 0, none⟩), .agg #[.int .i64 p, .int .i64 q], .int .i64 i] w' fun e w'' => e = .returned (.int .i64 f) ∧ Below w'.heap.size w' w''))
      obtain ⟨m, hm⟩ : ∃ m, behK t (p, q) s k f = m := ⟨_, rfl⟩
      obtain ⟨u, hu⟩ : ∃ u, 2 ^ i = u := ⟨_, rfl⟩
      obtain ⟨z, hz⟩ : ∃ z, m ||| u = z := ⟨_, rfl⟩
      have y0 := HX.out.cell f hf9
      rw [hm] at y0
      have z0 := HX.out.frz f
      have x0 := HX.out.lt
      have hshl : IntKind.u64.wrap ((2 : Int) ^ i) = (u : Int) := by rw [← hu]; exact shlW i hi6
      have hor : bits BinOp.and IntKind.u64 0 0 = 0 ∧ bits BinOp.or IntKind.u64 (m : Int) (u : Int) = (z : Int) := ⟨by decide +kernel, by
        rw [← hz]
        refine orW m u ?_ ?_
        · rw [← hm]; exact behK_64 _ _ _ _ _
        · rw [← hu]; exact Nat.lt_of_lt_of_le (Nat.pow_lt_pow_right (by decide) hi6) (by decide)⟩
      have hor := hor.2
      have HHIT := Lib.hid (show behK t (p, q) s (k + 1) f = z by rw [behK_hit t (p, q) s k f i hx hf, hm, hu, hz])
      have HMISS := Lib.hid (fun g (hg : g ≠ f) => behK_miss t (p, q) s k g i hx (by rw [hf]; exact fun e => hg (by omega)))
      have f10 : (f : Int) < 10 := by omega
      have f0 : (0 : Int) ≤ (f : Int) := by omega
      have i0 : (0 : Int) ≤ (i : Int) := by omega
      have k1 : (k : Int) < (n : Int) := by omega
      clear hrow hx hF hf hm hu hz hbit hbw
      go_wp2_with fail
      refine wp_region_last 10 (by kernel_rfl) (by kernel_rfl) rfl ?_
      repeat (first | (refine wpCalm_skip rfl ?_) | (refine wpCalm_step rfl (fun K hK => ?_); go_simp; (first | (refine hK _ ?_; clear hK K) | (apply Exists.intro; refine ⟨fun _ => ?_, hK _ ?_⟩; ((go_at_call 114; with_reducible exact newer_of (HCS.out _ (below_regrown _ _ _)))); clear hK K))))
      refine wpCalm_nil ?_
      intro w9 hb9
      have HX9 := Lib.hid (HX.out.mono hb9)
      have HO9 := Lib.hid (HO.out.mono hb9)
      have HL9 := Lib.hid (HL.out.trans (hb9.mono (by omega)))
      have u0 := HX9.out.lt
      have u1 := (hb9.cell (p := ⟨w.heap.size + 1, f, none⟩) x0).trans y0
      have u2 := HX9.out.frz f
      clear hb9 c0 y0 z0 hca hcb x0
      go_wp2_with fail
      go_roundw
      case rel => exact ⟨k + 1, by go_num, by have := HN.out; omega, HX9.out.put hf9 HHIT.out HMISS.out, HO9.out.set (b := w.heap.size + 1) (by omega) f (.int .u64 z), Below.setCell (p := ⟨w.heap.size + 1, f, none⟩) HL9.out (by simp) (.int .u64 z)⟩
      case measure => simp [intOf]; omega
    · obtain rfl : k = n := by omega
      have hall : ∀ f, f < 10 → wr.cell? ⟨w.heap.size + 1, f, none⟩ = some (.int .u64 (behM t (p, q) s f : Nat)) := fun f hf => by rw [HX.out.cell f hf, ← HN.out, behK_all]
      have c0 := hall 0 (by decide)
      have c1 := hall 1 (by decide)
      have c2 := hall 2 (by decide)
      have c3 := hall 3 (by decide)
      have c4 := hall 4 (by decide)
      have c5 := hall 5 (by decide)
      have c6 := hall 6 (by decide)
      have c7 := hall 7 (by decide)
      have c8 := hall 8 (by decide)
      have c9 := hall 9 (by decide)
      have x0 := HX.out.lt
      have z0 := HX.out.frz
      clear hall hca hcb
      go_wp2_with fail
      refine bodyPost_ret (v := behV t (p, q) s) (by simp [results, behV, Tryd.results72, go_sem, *]) rfl ⟨rfl, ?_⟩
      exact set10 HBW.out (Nat.le_succ _) _ _ _ _ _ _ _ _ _ _
end Go.Proofs.YtchhodikgllgnaaDoor
