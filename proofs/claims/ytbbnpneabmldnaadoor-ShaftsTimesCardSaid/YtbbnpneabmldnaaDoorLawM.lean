/- Walks: Copy once more, First, More, IsMoney (of the reference). Conditions: small shafts. -/
import Derived.Test.YtbbnpneabmldnaaDoorLawB
import Derived.Test.YtbbnpneabmldnaaDoorWalkZc
namespace Go.Proofs.YtbbnpneabmldnaaDoor
open Go.RowKit Go.Sort
/-- the blocks from one on are as they were -/
structure AboveH (base : Nat) (w w' : World) : Prop where
  size : w.heap.size ≤ w'.heap.size
  block : ∀ b, base ≤ b → b < w.heap.size → w'.heap[b]? = w.heap[b]?
theorem AboveH.refl (base : Nat) (w : World) : AboveH base w w := ⟨Nat.le_refl _, fun _ _ _ => rfl⟩
theorem AboveH.setCell {base : Nat} {w w' : World} {p : Addr} (hp : p.block < base ∨ w.heap.size ≤ p.block) (h : AboveH base w w') (v : Value) : AboveH base w (w'.setCell p v) :=
  ⟨by simpa [World.setCell] using h.size, fun b h1 h2 => (Below.heap_setCell w' p v b (by omega)).trans (h.block b h1 h2)⟩
theorem AboveH.below {base : Nat} {w w' w'' : World} (h : AboveH base w w') (hb : Below w'.heap.size w' w'') : AboveH base w w'' :=
  ⟨Nat.le_trans h.size hb.size, fun b h1 h2 => (hb.block b (Nat.lt_of_lt_of_le h2 h.size)).trans (h.block b h1 h2)⟩
theorem AboveH.alloc {base : Nat} {w w' : World} (h : AboveH base w w') (o : Obj) : AboveH base w (w'.alloc o) := h.below (bAlloc (Below.refl _ _) o)
theorem AboveH.drew {base : Nat} {w w' : World} (h : AboveH base w w') : AboveH base w w'.drew := h.below (bDrew (Below.refl _ _))
theorem AboveH.to {base : Nat} {w w' : World} (h : AboveH base w w') : Above base w w' :=
  ⟨h.size, fun b o h1 h2 => World.cell?_of_block (a := ⟨b, o, none⟩) (h.block b h1 h2), fun b o h1 h2 => World.frozen?_of_block (a := ⟨b, o, none⟩) (h.block b h1 h2)⟩
/-- the block of a row, whole: its type, its cells up to the capacity -/
def Spare (w : World) (A : Option Addr) (n c size : Nat) (e : TypeId) : Prop := (n = 0 → c = 0) ∧ ∀ b, 0 < n → A = some ⟨b, 0, none⟩ → b < w.heap.size ∧ ∃ cur fr, w.heap[b]? = some (.cells cur e fr) ∧ cur.size = c * size
theorem Spare.mono {w w' : World} {A : Option Addr} {n c size : Nat} {e : TypeId} (h : Spare w A n c size e) (hb : Below w.heap.size w w') : Spare w' A n c size e :=
  ⟨h.1, fun b hn he => by
    obtain ⟨h1, cur, fr, h2, h3⟩ := h.2 b hn he
    exact ⟨Nat.lt_of_lt_of_le h1 hb.size, cur, fr, (hb.block b h1).trans h2, h3⟩⟩
theorem Spare.above {base : Nat} {w w' : World} {A : Option Addr} {n c size : Nat} {e : TypeId} (h : Spare w A n c size e) (ha : AboveH base w w') (hA : ∀ p, A = some p → base ≤ p.block) : Spare w' A n c size e :=
  ⟨h.1, fun b hn he => by
    obtain ⟨h1, cur, fr, h2, h3⟩ := h.2 b hn he
    exact ⟨Nat.lt_of_lt_of_le h1 ha.size, cur, fr, (ha.block b (hA _ he) h1).trans h2, h3⟩⟩
theorem Spare.cell {w : World} {b n c : Nat} {e : TypeId} (h : Spare w (some ⟨b, 0, none⟩) n c 1 e) (hn : 0 < n) {j : Nat} (hj : j < c) : (w.cell? ⟨b, j, none⟩).isSome = true := by
  obtain ⟨_, cur, fr, h2, h3⟩ := h.2 b hn rfl
  rw [cell_of_row w b j _ _ _ h2]
  simp [h3, hj]
theorem Spare.apart {w : World} {b b' n n' c c' s s' : Nat} {e e' : TypeId} (h : Spare w (some ⟨b, 0, none⟩) n c s e) (h' : Spare w (some ⟨b', 0, none⟩) n' c' s' e') (hn : 0 < n) (hn' : 0 < n') (he : e ≠ e') : b ≠ b' := by
  intro hbb
  subst hbb
  obtain ⟨_, cur, fr, h2, _⟩ := h.2 b hn rfl
  obtain ⟨_, cur', fr', h2', _⟩ := h'.2 b hn' rfl
  rw [h2] at h2'
  injection h2' with h2'
  injection h2' with _ h2'
  exact he h2'
theorem run_copy_spare {P : Program} (w : World) (t ty e : TypeId) (i : TypeInfo) (z : Value) (size bytes : Nat) (ht : P.underlying t = some (.slice e)) (hi : P.info? e = some i) (hz : i.zero = some z) (hsize : i.size = size) (hby : i.bytes = bytes) (hzs : z.cells.size = size) (hsz : 0 < size)
    (ad : Addr) (A : Option Addr) (m c : Nat) (L : List Value) (hl : L.length = m * size) (hr : RowAt w A L) (h1 : ∀ u ∈ L, u.oneCell' = true) (h63 : m ≤ maxLen) (hbytes : m * bytes ≤ 140737488355328) (base : Nat) (hbase : base ≤ w.heap.size) (had : base ≤ ad.block) :
    ∃ A' c' w', (Builtin.append_ #[t, t] ty #[.slice (some ad) 0 0, .slice A m c]).run P w = .ok (.slice A' m c') w' ∧ Below w.heap.size w w' ∧ RowAt w' A' L ∧ Fresh w' base A' m c' ∧ Spare w' A' m c' size e := by
  rcases Nat.eq_zero_or_pos m with h0 | h0
  · subst h0
    obtain rfl : L = [] := List.eq_nil_of_length_eq_zero (by simpa using hl)
    refine ⟨some ad, 0, w, ?_, Below.refl _ _, .inl rfl, ⟨Nat.le_refl _, by omega, ⟨ad, rfl, had⟩, fun h => by omega⟩, fun _ => rfl, fun _ h => by omega⟩
    cases A with
    | none => simp [Builtin.append_, run_underlying ht, sizeOf, typeInfo, hi, Builtin.lenOf, Builtin.firstCells, storeCells]
    | some a =>
      have hfc := run_firstCells_some (P := P) w i.size 0 a 0 c [] (by simp) (fun j u h => by simp at h)
      simp [Builtin.append_, run_underlying ht, sizeOf, typeInfo, hi, Builtin.lenOf, hfc, storeCells]
  · rcases hr with hr | ⟨b, o, rfl, hlt, hc⟩
    · rw [hr] at hl
      have := Nat.mul_pos h0 hsz
      simp only [List.length_nil] at hl
      omega
    · obtain ⟨v', w', hrun, hown, hg⟩ := run_append_arg_grows (P := P) w t ty e i z size bytes ht hi hz hsize hby hzs hsz ad 0 0 [] (by simp) (fun j u h => by simp at h) ⟨b, o, none⟩ m c L hl (fun j u h => by
        rw [show (⟨b, o, none⟩ : Addr).add j = ⟨b, o + j, none⟩ from by unfold Addr.add; split <;> simp_all]; exact hc j u h) (by omega) (by omega) (by simpa using hbytes)
      simp only [List.nil_append, Nat.zero_add] at hown
      rcases id hown.2 with ⟨_, h0'⟩ | ⟨g, cap, cur, hv, hb, hblk, h5, h6, hsz', _⟩
      · rw [h0'] at hl; simp at hl; omega
      · subst hv
        refine ⟨_, _, w', hrun, below_grown hg, .inr ⟨g, 0, rfl, (hown.lt g rfl).2, fun j u hj => ?_⟩, ⟨h5, by unfold maxLen at h6; exact h6, ⟨_, rfl, by simp; omega⟩, fun _ => ⟨g, rfl, (hown.lt g rfl).2, fun j => hown.frozenAt j⟩⟩, fun h => by omega, fun b _ he => ?_⟩
        · have := hown.cells (g := g) rfl j u hj
          rwa [show (⟨g, 0, none⟩ : Addr).add j = ⟨g, 0 + j, none⟩ from by unfold Addr.add; split <;> simp_all] at this
        · injection he with he
          injection he with he
          subst he
          exact ⟨(hown.lt g rfl).2, cur, _, hblk, hsz'⟩
theorem held_copy_spare {P : Program} {o : Oper} {a : Act} (w : World) (s x : Operand) (t : TypeId) (hop : o.op = Op.call { callee := Callee.builtin Builtin.append, args := #[s, x], argTypes := #[t, t] })
    (e : TypeId) (z : Value) (size bytes : Nat) (hinfo : (P.info? e).map (fun i => (i.zero, i.size, i.bytes)) = some (some z, size, bytes)) (ht : P.underlying t = some (.slice e)) (hzs : z.cells.size = size) (hsz : 0 < size)
    (ad : Addr) (A : Option Addr) (m c : Nat) (L : List Value) (hs : a.eval s = .slice (some ad) 0 0) (hx : a.eval x = .slice A m c) (hl : L.length = m * size) (hr : RowAt w A L) (h1 : ∀ u ∈ L, u.oneCell' = true) (h63 : m ≤ 1000000) (hby : bytes ≤ 1000000) (base : Nat) (hbase : base ≤ w.heap.size) (had : base ≤ ad.block)
    (r : World → Value → Prop) (hK : ∀ A' c' w', RowAt w' A' L → Fresh w' base A' m c' → Spare w' A' m c' size e → r w' (.slice A' m c')) : Oper.heldAt P o a w r := by
  obtain ⟨i0, hi, iz0, iz1, iz2⟩ := info_parts hinfo
  have hbytes : m * bytes ≤ 140737488355328 := Nat.le_trans (Nat.mul_le_mul h63 hby) (by decide)
  obtain ⟨A', c', w', hrun, hb, hrow, hf, hsp⟩ := run_copy_spare (P := P) w t o.type e i0 z size bytes ht hi iz0 iz1 iz2 hzs hsz ad A m c L hl hr h1 (by unfold maxLen; omega) hbytes base hbase had
  unfold Oper.heldAt
  simp only [execOp, hop, resolve, invoke, builtin, List.map_toArray, List.map_cons, List.map_nil, hs, hx, hrun, Result.andThen, Sem.run_bind, Sem.run_pure, Oper.heldUpon]
  exact ⟨hb, hK _ _ _ hrow hf hsp⟩
def copyB (base n size : Nat) (e : TypeId) (L : List Value) (w : World) (v : Value) : Prop := ∃ A c, v = .slice A n c ∧ RowAt w A L ∧ Fresh w base A n c ∧ Spare w A n c size e
theorem copyBG (base n size : Nat) (e : TypeId) (L : List Value) : (Held.held (copyS n) (copyB base n size e L)).good :=
  ⟨⟨_, none, 0, rfl⟩, fun _ _ _ hb ⟨A, c, e, h1, h2, h3⟩ => ⟨A, c, e, h1.mono hb, h2.mono hb, h3.mono hb⟩⟩
theorem copyB_get {base n size : Nat} {t : TypeId} {L : List Value} {w : World} {A : Option Addr} {c : Nat} (h : copyB base n size t L w (.slice A n c)) : RowAt w A L ∧ Fresh w base A n c ∧ Spare w A n c size t := by
  obtain ⟨A', c', e, h1, h2, h3⟩ := h
  injection e with e1 _ e2
  subst e1 e2
  exact ⟨h1, h2, h3⟩
/-- what Copy hands back -/
def CopiedB (base : Nat) (w' : World) (S : Sh) (e : Ending) : Prop :=
  ∃ Ar Af cr cf, e = .returned (.agg #[.slice Ar S.nr cr, .slice Af S.nf cf, .int .i64 S.deep, .int .i64 S.haul, .int .i64 S.rest]) ∧ ShAt w' Ar Af S ∧ Fresh w' base Ar S.nr cr ∧ Fresh w' base Af S.nf cf ∧ Spare w' Ar S.nr cr 4 46 ∧ Spare w' Af S.nf cf 1 3
theorem copiedB_above {base base' : Nat} {w' w'' : World} {S : Sh} {Ar Af : Option Addr} {cr cf : Nat} (h : ShAt w' Ar Af S) (h1 : Fresh w' base' Ar S.nr cr) (h2 : Fresh w' base' Af S.nf cf) (h4 : Spare w' Ar S.nr cr 4 46) (h3 : Spare w' Af S.nf cf 1 3) (hb : base ≤ base') (ha : AboveH base' w' w'') :
    ShAt w'' Ar Af S ∧ Fresh w'' base Ar S.nr cr ∧ Fresh w'' base Af S.nf cf ∧ Spare w'' Ar S.nr cr 4 46 ∧ Spare w'' Af S.nf cf 1 3 :=
  ⟨⟨rocksAt_row.2 ((rocksAt_row.1 h.rocks).above ha.to h1.at_), intsAt_row.2 ((intsAt_row.1 h.feet).above ha.to h2.at_)⟩, (h1.above ha.to).base hb, (h2.above ha.to).base hb, h4.above ha h1.at_, h3.above ha h2.at_⟩
set_option maxHeartbeats 4000000 in
set_option maxRecDepth 100000 in
theorem Copy_own (Ar Af : Option Addr) (cr cf : Nat) (S : Sh) (w : World) (hr : S.nr ≤ 1000) (hf : S.nf ≤ 1000) (hS : ShAt w Ar Af S) :
    Calls Tryd.prog 17 #[.agg #[.slice Ar S.nr cr, .slice Af S.nf cf, .int .i64 S.deep, .int .i64 S.haul, .int .i64 S.rest]] w fun e w' => CopiedB w.heap.size w' S e ∧ Below w.heap.size w w' := by
  have HS0 := Lib.hid hS
  clear hS
  go_enter Tryd.func17, Tryd.ntmps17
  go_wp2_with fail
  have hbW : Below w.heap.size w (((w.alloc (.cells #[.slice Ar S.nr cr, .slice Af S.nf cf, .int .i64 S.deep, .int .i64 S.haul, .int .i64 S.rest] 25)).alloc (.cells #[.slice none 0 0, .slice none 0 0, .int .i64 0, .int .i64 0, .int .i64 0] 25)).alloc (.cells #[.slice Ar S.nr cr, .slice Af S.nf cf, .int .i64 S.deep, .int .i64 S.haul, .int .i64 S.rest] 25)) := by (repeat (first | (with_reducible exact Below.refl _ _) | (with_reducible refine bAlloc ?_ _) | (with_reducible refine bDrew ?_) | (with_reducible refine bGrow ?_ _ _) | (with_reducible refine bSet ?_ ?_ _; (first | exact Nat.le_refl _ | exact Nat.le_add_right _ _ | (simp; omega))) | (with_reducible refine bTrans ?_ (by assumption))))
  have HBW := Lib.hid hbW
  clear hbW
  have HZ := Lib.hid (fun w' (hb : Below (((w.alloc (.cells #[.slice Ar S.nr cr, .slice Af S.nf cf, .int .i64 S.deep, .int .i64 S.haul, .int .i64 S.rest] 25)).alloc (.cells #[.slice none 0 0, .slice none 0 0, .int .i64 0, .int .i64 0, .int .i64 0] 25)).alloc (.cells #[.slice Ar S.nr cr, .slice Af S.nf cf, .int .i64 S.deep, .int .i64 S.haul, .int .i64 S.rest] 25)).heap.size (((w.alloc (.cells #[.slice Ar S.nr cr, .slice Af S.nf cf, .int .i64 S.deep, .int .i64 S.haul, .int .i64 S.rest] 25)).alloc (.cells #[.slice none 0 0, .slice none 0 0, .int .i64 0, .int .i64 0, .int .i64 0] 25)).alloc (.cells #[.slice Ar S.nr cr, .slice Af S.nf cf, .int .i64 S.deep, .int .i64 S.haul, .int .i64 S.rest] 25)) w') => (show w.heap.size + 3 ≤ w'.heap.size from by have := hb.size; simpa using this))
  refine wp_region_held 9 [.held emptyS (emptyR (w.heap.size + 3)), .const (.pointer (some ⟨w.heap.size, 0, none⟩)), .const (.slice Ar S.nr cr), .held (copyS S.nr) (copyB (w.heap.size + 3) S.nr 4 46 (rockL S.rock S.nr)),
    .held emptyS (emptyR (w.heap.size + 3)), .const (.pointer (some ⟨w.heap.size, 1, none⟩)), .const (.slice Af S.nf cf), .held (copyS S.nf) (copyB (w.heap.size + 3) S.nf 1 3 (intL S.foot S.nf)), .const (.pointer (some ⟨w.heap.size + 2, 0, none⟩))]
    (by kernel_rfl) (by kernel_rfl) rfl ⟨emptyG _, trivial, trivial, copyBG _ _ _ _ _, emptyG _, trivial, trivial, copyBG _ _ _ _ _, trivial, trivial⟩ ?_
  refine wpHeld_held rfl (fun w' hb hd => ?_) (fun v hv => ?_)
  · go_simp
    exact ⟨bAlloc (Below.refl _ _) _, ⟨_, rfl⟩, _, rfl, HZ.out _ hb⟩
  obtain ⟨b0, rfl⟩ := hv
  refine wpHeld_const (by go_simp) ?_
  refine wpHeld_const (by go_simp) ?_
  refine wpHeld_held rfl (fun w' hb hd => ?_) (fun v hv => ?_)
  · have hbb := emptyR_get (hd.1 (by kernel_rfl))
    exact held_copy_spare _ _ _ _ rfl 46 _ 4 32 infoRock Tryd.underlying22 rfl (by decide) ⟨b0, 0, none⟩ Ar S.nr cr (rockL S.rock S.nr) rfl rfl (rockL_len _ _) ((rocksAt_row.1 HS0.out.rocks).mono (bTrans HBW.out hb)) (rockL_one _ _) (by omega) (by decide) (w.heap.size + 3) (HZ.out _ hb) hbb _ (fun A' c' w' h1 h2 h3 => ⟨⟨_, _, rfl⟩, _, _, rfl, h1, h2, h3⟩)
  obtain ⟨A1, c1, rfl⟩ := hv
  refine wpHeld_held rfl (fun w' hb hd => ?_) (fun v hv => ?_)
  · go_simp
    exact ⟨bAlloc (Below.refl _ _) _, ⟨_, rfl⟩, _, rfl, HZ.out _ hb⟩
  obtain ⟨b4, rfl⟩ := hv
  refine wpHeld_const (by go_simp) ?_
  refine wpHeld_const (by go_simp) ?_
  refine wpHeld_held rfl (fun w' hb hd => ?_) (fun v hv => ?_)
  · have hbb := emptyR_get (hd.1 (by kernel_rfl))
    exact held_copy_spare _ _ _ _ rfl 3 _ 1 8 infoInt Tryd.underlying23 rfl (by decide) ⟨b4, 0, none⟩ Af S.nf cf (intL S.foot S.nf) rfl rfl (by rw [intL_len]; omega) ((intsAt_row.1 HS0.out.feet).mono (bTrans HBW.out hb)) (intL_one _ _) (by omega) (by decide) (w.heap.size + 3) (HZ.out _ hb) hbb _ (fun A' c' w' h1 h2 h3 => ⟨⟨_, _, rfl⟩, _, _, rfl, h1, h2, h3⟩)
  obtain ⟨A2, c2, rfl⟩ := hv
  refine wpHeld_const (by go_simp) ?_
  refine wpHeld_end (fun w3 hb3 hd => ?_)
  have hbw := bTrans HBW.out hb3
  have hd2 : copyB (w.heap.size + 3) S.nf 1 3 (intL S.foot S.nf) w3 (.slice A2 S.nf c2) := hd.1
  have hd1 : copyB (w.heap.size + 3) S.nr 4 46 (rockL S.rock S.nr) w3 (.slice A1 S.nr c1) := hd.2.2.1
  clear hd
  obtain ⟨h2, f2, s2⟩ := copyB_get hd2
  obtain ⟨h1, f1, s1⟩ := copyB_get hd1
  clear hd1 hd2
  have HI := Lib.hid (intsAt_row.2 h2)
  have HR := Lib.hid (rocksAt_row.2 h1)
  have HF1 := Lib.hid f1
  have HF2 := Lib.hid f2
  have HP2 := Lib.hid s2
  have HP1 := Lib.hid s1
  have HBX := Lib.hid hbw
  obtain ⟨bc, bf⟩ := bcell hb3
  have hz := hb3.size
  simp only [World.size_alloc] at hz
  clear h1 h2 f1 f2 s1 s2 HBW hb3 hbw
  simp only [List.drop_succ_cons, List.drop_zero]
  go_wp2_with fail
  refine bodyPost_ret (v := .agg #[.slice A1 S.nr c1, .slice A2 S.nf c2, .int .i64 S.deep, .int .i64 S.haul, .int .i64 S.rest]) (by simp [results, Tryd.results17, go_sem, *]) rfl ?_
  have hbx := HBX.out
  refine ⟨⟨A1, A2, c1, c2, rfl, ?_⟩, by (repeat (first | (with_reducible exact Below.refl _ _) | (with_reducible refine bAlloc ?_ _) | (with_reducible refine bDrew ?_) | (with_reducible refine bGrow ?_ _ _) | (with_reducible refine bSet ?_ ?_ _; (first | exact Nat.le_refl _ | exact Nat.le_add_right _ _ | (simp; omega))) | (with_reducible refine bTrans ?_ (by assumption))))⟩
  refine copiedB_above (base' := w.heap.size + 3) (w' := w3) ⟨HR.out, HI.out⟩ HF1.out HF2.out HP1.out HP2.out (by omega) ?_
  (repeat (first | (with_reducible exact AboveH.refl _ _) | ((with_reducible refine AboveH.setCell ?_ ?_ _); (focus (simp; done))) | ((with_reducible refine AboveH.setCell ?_ ?_ _); (focus (simp; omega))) | (with_reducible refine AboveH.alloc ?_ _) | (with_reducible refine AboveH.drew ?_)))
theorem Above.setNew {base : Nat} {w w' : World} {p : Addr} (hp : w.heap.size ≤ p.block) (h : Above base w w') (v : Value) : Above base w (w'.setCell p v) :=
  ⟨by simpa [World.setCell] using h.size, fun b o h1 h2 => (World.cell?_setCell_other _ _ _ _ (fun e => by subst e; simp at hp; omega)).trans (h.cell b o h1 h2), fun b o h1 h2 => (World.frozen?_setCell _ _ _ _).trans (h.frozen b o h1 h2)⟩
/-- what First and More hand back: a shaft in new memory -/
def Given (w' : World) (S : Sh) (e : Ending) : Prop :=
  ∃ (Ar : Option Addr) (p : Addr) (cr cf : Nat), e = .returned (.agg #[.slice Ar S.nr cr, .slice (some p) S.nf cf, .int .i64 S.deep, .int .i64 S.haul, .int .i64 S.rest]) ∧ ShAt w' Ar (some p) S ∧ S.nf ≤ cf ∧ cf ≤ 9223372036854775807
theorem first_given {base : Nat} {w2 w' : World} {S : Sh} {Ar : Option Addr} {p : Addr} {cr cf d : Nat} (h : ShAt w2 Ar (some p) S) (h1 : Fresh w2 base Ar S.nr cr) (h2 : Fresh w2 base (some p) S.nf cf) (hd : d ≤ S.nf) (hc : cf ≤ 9223372036854775807) (ha : Above base w2 w') :
    Given w' (S.first d) (.returned (.agg #[.slice Ar S.nr cr, .slice (some p) d cf, .int .i64 S.deep, .int .i64 S.haul, .int .i64 S.rest])) := by
  have h := copied_above (base := base) h h1 h2 (Nat.le_refl _) ha
  exact ⟨Ar, p, cr, cf, rfl, h.1.first hd, Nat.le_trans hd h2.1, hc⟩
set_option maxHeartbeats 1000000 in
set_option maxRecDepth 100000 in
theorem First_any (Ar Af : Option Addr) (cr cf : Nat) (S : Sh) (d : Nat) (w : World) (hr : S.nr ≤ 1000) (hf : S.nf ≤ 1000) (hd : d ≤ S.nf) (hS : ShAt w Ar Af S) :
    Calls Tryd.prog 36 #[.agg #[.slice Ar S.nr cr, .slice Af S.nf cf, .int .i64 S.deep, .int .i64 S.haul, .int .i64 S.rest], .int .i64 d] w fun e w' => Given w' (S.first d) e ∧ Below w.heap.size w w' := by
  have hb0 := bAlloc (bAlloc (Below.refl w.heap.size w) (.cells #[.slice Ar S.nr cr, .slice Af S.nf cf, .int .i64 S.deep, .int .i64 S.haul, .int .i64 S.rest] 25)) (.cells #[.slice none 0 0, .slice none 0 0, .int .i64 0, .int .i64 0, .int .i64 0] 25)
  have HS := Lib.hid (hS.mono hb0)
  have HB := Lib.hid hb0
  clear hS hb0
  go_enter Tryd.func36, Tryd.ntmps36
  go_wp2_with fail
  refine (Copy_any _ _ _ _ S _ hr hf HS.out).mono ?_
  rintro e w2 ⟨⟨A2, F2, c2, d2, rfl, hS2, hFr, hFf⟩, hb2⟩
  obtain ⟨u1, u2, ⟨p, rfl, hp⟩, u4⟩ := id hFf
  have HS2 := Lib.hid hS2
  have HF1 := Lib.hid hFr
  have HF2 := Lib.hid hFf
  have HB2 := Lib.hid hb2
  obtain ⟨bc2, bf2⟩ := bcell hb2
  have hz2 := hb2.size
  simp only [World.size_alloc] at hz2
  have hy2 : w.heap.size < w2.heap.size := by omega
  have hx2 : w.heap.size + 1 < w2.heap.size := by omega
  clear hb2 hS2 hFr hFf u4
  go_wp2_with fail
  have hb2 := HB2.out
  refine bodyPost_ret (v := .agg #[.slice A2 S.nr c2, .slice (some p) d d2, .int .i64 S.deep, .int .i64 S.haul, .int .i64 S.rest]) (by simp [results, Tryd.results36, go_sem, *]) rfl ?_
  refine ⟨?_, by have := HB.out; (repeat (first | (with_reducible exact Below.refl _ _) | (with_reducible refine bAlloc ?_ _) | (with_reducible refine bDrew ?_) | (with_reducible refine bGrow ?_ _ _) | (with_reducible refine bSet ?_ ?_ _; (first | exact Nat.le_refl _ | exact Nat.le_add_right _ _ | (simp; omega))) | (with_reducible refine bTrans ?_ (by assumption))))⟩
  refine first_given HS2.out HF1.out HF2.out hd u2 ?_
  (repeat (first | (with_reducible exact Above.refl _ _) | ((with_reducible refine Above.setCell ?_ ?_ _); (focus (simp; done))) | ((with_reducible refine Above.setCell ?_ ?_ _); (focus (simp; omega))) | ((with_reducible refine Above.setNew ?_ ?_ _); (focus (simp; done))) | ((with_reducible refine Above.setNew ?_ ?_ _); (focus (simp; omega))) | (with_reducible refine Above.alloc ?_ _) | (with_reducible refine Above.drew ?_)))
theorem isMoney_any (n : Int) (w : World) : Calls Tryd.prog 48 #[.int .i64 n] w fun e w' => e = .returned (.bool (inR n 0 9999)) ∧ w = w' := by
  go_enter Tryd.func48, Tryd.ntmps48
  go_wp2_with (go_at_call 66; refine (within02_any _ _ _ _).mono ?_; rintro e w' ⟨rfl, rfl⟩)
  go_ret
  exact ⟨rfl, rfl⟩
theorem IntsAt.snoc {w : World} {b n : Nat} {g : Nat → Int} (h : IntsAt w (some ⟨b, 0, none⟩) n g) (hlt : b < w.heap.size) (hc1 : (w.cell? ⟨b, n, none⟩).isSome = true) (v : Int) : IntsAt (w.setCell ⟨b, n, none⟩ (.int .i64 v)) (some ⟨b, 0, none⟩) (n + 1) (snocF g n v) := by
  refine .inr ⟨b, 0, rfl, by simpa [World.setCell] using hlt, fun i hi => ?_⟩
  rw [Nat.zero_add]
  rcases Nat.lt_or_ge i n with h1 | h1
  · rw [World.cell?_setCell_other _ _ _ _ (fun e => by injection e with _ e; omega)]
    rcases h with h | ⟨b', o', e, _, hc⟩
    · omega
    · injection e with e
      injection e with e1 e2
      subst e1 e2
      have := hc i h1
      rw [Nat.zero_add] at this
      rw [this]
      unfold snocF
      rw [if_neg (by omega)]
  · obtain rfl : i = n := by omega
    obtain ⟨u, hu⟩ := Option.isSome_iff_exists.1 hc1
    rw [World.cell?_setCell_same _ _ _ hu]
    unfold snocF
    rw [if_pos rfl]
/-- but for one block all is as it was -/
structure But (b : Nat) (w w' : World) : Prop where
  size : w'.heap.size = w.heap.size
  block : ∀ k, k ≠ b → w'.heap[k]? = w.heap[k]?
  os : w'.os = w.os
  tape : w'.tape = w.tape
  output : w'.output = w.output
theorem But.cell {b : Nat} {w w' : World} (h : But b w w') {k : Nat} (hk : k ≠ b) (o : Nat) : w'.cell? ⟨k, o, none⟩ = w.cell? ⟨k, o, none⟩ := World.cell?_of_block (a := ⟨k, o, none⟩) (h.block k hk)
theorem But.frozen {b : Nat} {w w' : World} (h : But b w w') {k : Nat} (hk : k ≠ b) (o : Nat) : w'.frozen? ⟨k, o, none⟩ = w.frozen? ⟨k, o, none⟩ := World.frozen?_of_block (a := ⟨k, o, none⟩) (h.block k hk)
theorem But.below {b base : Nat} {w w' : World} (h : But b w w') (hb : base ≤ b) : w.heap.size = base → Below base w w' := fun e =>
  ⟨h.os, h.tape, h.output, by rw [h.size]; omega, fun k hk => h.block k (by omega)⟩
theorem RowAt.but {b : Nat} {w w' : World} {A : Option Addr} {L : List Value} (hr : RowAt w A L) (h : But b w w') (hA : ∀ p, A = some p → p.block ≠ b) : RowAt w' A L := by
  rcases hr with hr | ⟨k, o, rfl, hlt, hc⟩
  · exact .inl hr
  · exact .inr ⟨k, o, rfl, by rw [h.size]; exact hlt, fun j v hj => (h.cell (hA _ rfl) _).trans (hc j v hj)⟩
/-- one number behind a slice with room -/
theorem wpList_app_room (w : World) {ops : Array Oper} {rest : List Oper} {o : Oper} {a : Act} {Q : Exit → Act → World → Prop}
    (hg : o.guard = none) (s x : Operand) (hop : o.op = Op.call { callee := Callee.builtin Builtin.append, args := #[s, x], argTypes := #[23, 23] })
    (b n c : Nat) (g : Nat → Int) (hs : a.eval s = .slice (some ⟨b, 0, none⟩) n c) (hI : IntsAt w (some ⟨b, 0, none⟩) n g) (hnc : n < c) (hc1 : (w.cell? ⟨b, n, none⟩).isSome = true) (hf1 : w.frozen? ⟨b, n, none⟩ = false) (ad : Addr) (v : Int) (hx : a.eval x = .slice (some ad) 1 1) (hc : w.cell? ad = some (.int .i64 v)) (hn : n ≤ 1000000)
    (hlt : b < w.heap.size) (hK : ∀ w', But b w w' → IntsAt w' (some ⟨b, 0, none⟩) (n + 1) (snocF g n v) → wpList Tryd.prog ops Q rest (a.put o.dst (.slice (some ⟨b, 0, none⟩) (n + 1) c)) w') :
    wpList Tryd.prog ops Q (o :: rest) a w := by
  obtain ⟨i0, hi, iz0, iz1, iz2⟩ := info_parts infoInt
  refine wpList_append_arg w hg s x 23 hop 3 i0 (.int .i64 0) 1 8 Tryd.underlying23 hi iz0 iz1 iz2 rfl (by decide) b 0 n c (intL g n) hs (by rw [intL_len]; omega) (fun j u h => ?_) ad 1 1 [.int .i64 v] hx rfl ?_ ?_ (fun _ j hj => ?_) (by unfold maxLen; omega) (by omega) (fun _ => ?_) (fun h => by omega)
  · have := intL_read hI _ rfl j u h
    rwa [show (⟨b, 0, none⟩ : Addr).add j = ⟨b, 0 + j, none⟩ from by unfold Addr.add; split <;> simp_all] at this
  · intro j u hj
    match j, hj with
    | 0, hj => simp at hj; subst hj; rw [show ad.add 0 = ad from by unfold Addr.add; split <;> simp_all]; exact hc
  · intro u hu; simp at hu; subst hu; rfl
  · simp at hj
    subst hj
    simp only [Nat.zero_add, Nat.mul_one, Nat.add_zero]
    exact ⟨hc1, hf1⟩
  · simp only [Nat.zero_add, Nat.mul_one, World.setCells]
    exact hK _ ⟨by simp [World.setCell], fun k hk => Below.heap_setCell w _ _ k hk, rfl, rfl, rfl⟩ (hI.snoc hlt hc1 v)
theorem more_given {base base' : Nat} {w2 w3 w' : World} {S : Sh} {r : Int} {Ar : Option Addr} {b : Nat} {cr cf : Nat} (hr : RocksAt w2 Ar S.nr S.rock) (hi : IntsAt w3 (some ⟨b, 0, none⟩) (S.nf + 1) (snocF S.foot S.nf r)) (h1 : ∀ q, Ar = some q → base ≤ q.block) (h2 : base' ≤ b) (hc : S.nf + 1 ≤ cf) (hc2 : cf ≤ 9223372036854775807) (ha : Above base w2 w') (hb : Above base' w3 w') :
    Given w' (S.more r) (.returned (.agg #[.slice Ar S.nr cr, .slice (some ⟨b, 0, none⟩) (S.nf + 1) cf, .int .i64 S.deep, .int .i64 S.haul, .int .i64 S.rest])) :=
  ⟨Ar, ⟨b, 0, none⟩, cr, cf, rfl, ⟨rocksAt_row.2 ((rocksAt_row.1 hr).above ha h1), intsAt_row.2 ((intsAt_row.1 hi).above hb (fun q e => by injection e with e; subst e; exact h2))⟩, hc, hc2⟩
theorem more_given2 {base : Nat} {w3 w' : World} {S : Sh} {r : Int} {Ar : Option Addr} {b : Nat} {cr cf : Nat} (hr : RocksAt w3 Ar S.nr S.rock) (hi : IntsAt w3 (some ⟨b, 0, none⟩) (S.nf + 1) (snocF S.foot S.nf r)) (h1 : ∀ q, Ar = some q → base ≤ q.block) (h2 : base ≤ b) (hc : S.nf + 1 ≤ cf) (hc2 : cf ≤ 9223372036854775807) (ha : Above base w3 w') :
    Given w' (S.more r) (.returned (.agg #[.slice Ar S.nr cr, .slice (some ⟨b, 0, none⟩) (S.nf + 1) cf, .int .i64 S.deep, .int .i64 S.haul, .int .i64 S.rest])) :=
  more_given hr hi h1 h2 hc hc2 ha ha
set_option maxHeartbeats 1000000 in
set_option maxRecDepth 100000 in
theorem More_any (Ar Af : Option Addr) (cr cf : Nat) (S : Sh) (r : Int) (w : World) (hr : S.nr ≤ 1000) (hf : S.nf ≤ 1000) (hS : ShAt w Ar Af S) :
    Calls Tryd.prog 49 #[.agg #[.slice Ar S.nr cr, .slice Af S.nf cf, .int .i64 S.deep, .int .i64 S.haul, .int .i64 S.rest], .int .i64 r] w fun e w' => Given w' (S.more r) e ∧ Below w.heap.size w w' := by
  have hb0 := bAlloc (bAlloc (Below.refl w.heap.size w) (.cells #[.slice Ar S.nr cr, .slice Af S.nf cf, .int .i64 S.deep, .int .i64 S.haul, .int .i64 S.rest] 25)) (.cells #[.slice none 0 0, .slice none 0 0, .int .i64 0, .int .i64 0, .int .i64 0] 25)
  have HS := Lib.hid (hS.mono hb0)
  have HB := Lib.hid hb0
  clear hS hb0
  go_enter Tryd.func49, Tryd.ntmps49
  go_wp2_with fail
  refine (Copy_own _ _ _ _ S _ hr hf HS.out).mono ?_
  rintro e w2 ⟨⟨A2, F2, c2, d2, rfl, hS2, hFr, hFf, hP1, hP2⟩, hb2⟩
  obtain ⟨u1, u2, ⟨p, rfl, hp⟩, u4⟩ := id hFf
  have HS2 := Lib.hid hS2
  have HF1 := Lib.hid hFr
  have HF2 := Lib.hid hFf
  have HP1 := Lib.hid hP1
  have HP2 := Lib.hid hP2
  have HB2 := Lib.hid hb2
  obtain ⟨bc2, bf2⟩ := bcell hb2
  have hz2 := hb2.size
  simp only [World.size_alloc] at hz2
  have hy2 : w.heap.size < w2.heap.size := by omega
  have hx2 : w.heap.size + 1 < w2.heap.size := by omega
  clear hb2 hS2 hFr hFf hP1 hP2
  by_cases hfull : d2 = S.nf
  · have HFU := Lib.hid hfull
    clear u4
    subst hfull
    go_wp2_with (at_builtin; refine wpList_app_full _ rfl _ _ rfl (some p) S.nf S.foot rfl (fun h => by cases h) ((HS2.out.feet.alloc _).alloc _) ⟨w2.heap.size + 1, 0, none⟩ r rfl (by go_simp) (by omega) ?_)
    intro b3 c3 w3 hI3 hb3 hc3 hc4 hp3
    have hb3 : Below _ _ w3 := hb3
    have hb3' := bTrans (bAlloc (bAlloc (Below.refl w2.heap.size w2) _) _) hb3
    have HI3 := Lib.hid hI3
    have HB3 := Lib.hid hb3'
    obtain ⟨bc3, bf3⟩ := bcell (bTrans (bAlloc (Below.refl (w2.alloc (.cells #[.slice A2 S.nr c2, .slice (some p) S.nf S.nf, .int .i64 S.deep, .int .i64 S.haul, .int .i64 S.rest] 25)).heap.size (w2.alloc (.cells #[.slice A2 S.nr c2, .slice (some p) S.nf S.nf, .int .i64 S.deep, .int .i64 S.haul, .int .i64 S.rest] 25))) _) hb3)
    have hz3 := hb3.size
    simp only [World.size_alloc] at hz3
    have hy3 : w.heap.size < w3.heap.size := by omega
    have hx3 : w.heap.size + 1 < w3.heap.size := by omega
    have hv3 : w2.heap.size < w3.heap.size := by omega
    clear hI3 hb3 hb3'
    go_wp2_with fail
    refine bodyPost_ret (v := .agg #[.slice A2 S.nr c2, .slice (some ⟨b3, 0, none⟩) (S.nf + 1) c3, .int .i64 S.deep, .int .i64 S.haul, .int .i64 S.rest]) (by simp [results, Tryd.results49, go_sem, *]) rfl ?_
    have hbb := HB.out
    have hb2 := HB2.out
    have hb3 := HB3.out
    refine ⟨more_given (base' := w2.heap.size + 1) HS2.out.rocks HI3.out HF1.out.at_ (by omega) hc3 hc4 ?_ ?_, by (repeat (first | (with_reducible exact Below.refl _ _) | (with_reducible refine bAlloc ?_ _) | (with_reducible refine bDrew ?_) | (with_reducible refine bGrow ?_ _ _) | (with_reducible refine bSet ?_ ?_ _; (first | exact Nat.le_refl _ | exact Nat.le_add_right _ _ | (simp; omega))) | (with_reducible refine bTrans ?_ (by assumption))))⟩
    · (repeat (first | (with_reducible exact Above.refl _ _) | ((with_reducible refine Above.setCell ?_ ?_ _); (focus (simp; done))) | ((with_reducible refine Above.setCell ?_ ?_ _); (focus (simp; omega))) | ((with_reducible refine Above.setNew ?_ ?_ _); (focus (simp; done))) | ((with_reducible refine Above.setNew ?_ ?_ _); (focus (simp; omega))) | (with_reducible refine Above.alloc ?_ _) | (with_reducible refine Above.drew ?_)))
      exact (Above.refl _ _).below hb3
    · (repeat (first | (with_reducible exact Above.refl _ _) | ((with_reducible refine Above.setCell ?_ ?_ _); (focus (simp; done))) | ((with_reducible refine Above.setCell ?_ ?_ _); (focus (simp; omega))) | ((with_reducible refine Above.setNew ?_ ?_ _); (focus (simp; done))) | ((with_reducible refine Above.setNew ?_ ?_ _); (focus (simp; omega))) | (with_reducible refine Above.alloc ?_ _) | (with_reducible refine Above.drew ?_)))
  · have hn : 0 < S.nf := by
      rcases Nat.eq_zero_or_pos S.nf with h0 | h0
      · have := HP2.out.1 h0; omega
      · exact h0
    obtain ⟨b, e, hlt, hfz⟩ := u4 hn
    injection e with e
    subst e
    have hnc : S.nf < d2 := by omega
    have HFZ := Lib.hid hfz
    have hp : w.heap.size + 2 ≤ b := by simpa using hp
    clear hfz hfull
    go_wp2_with (at_builtin; refine wpList_app_room _ rfl _ _ rfl b S.nf d2 S.foot rfl ((HS2.out.feet.alloc _).alloc _) hnc ((HP2.out.mono (bAlloc (bAlloc (Below.refl _ _) _) _)).cell hn hnc) (((bAlloc (bAlloc (Below.refl w2.heap.size w2) _) _).frozen (p := ⟨b, S.nf, none⟩) hlt).trans (HFZ.out _)) ⟨w2.heap.size + 1, 0, none⟩ r rfl (by go_simp) (by omega) (by simp; omega) ?_)
    intro w3 hbut hI3
    have HBT := Lib.hid hbut
    have HI3 := Lib.hid hI3
    have bc3 : ∀ k o, k ≠ b → w3.cell? ⟨k, o, none⟩ = ((w2.alloc (.cells #[.slice A2 S.nr c2, .slice (some ⟨b, 0, none⟩) S.nf d2, .int .i64 S.deep, .int .i64 S.haul, .int .i64 S.rest] 25)).alloc (.cells #[.int .i64 r] 3)).cell? ⟨k, o, none⟩ := fun k o hk => hbut.cell hk o
    have bf3 : ∀ k o, k ≠ b → w3.frozen? ⟨k, o, none⟩ = ((w2.alloc (.cells #[.slice A2 S.nr c2, .slice (some ⟨b, 0, none⟩) S.nf d2, .int .i64 S.deep, .int .i64 S.haul, .int .i64 S.rest] 25)).alloc (.cells #[.int .i64 r] 3)).frozen? ⟨k, o, none⟩ := fun k o hk => hbut.frozen hk o
    have ne1 : w2.heap.size ≠ b := by omega
    have ne2 : w.heap.size + 1 ≠ b := by omega
    have ne3 : w.heap.size ≠ b := by omega
    clear hbut hI3
    go_wp2_with fail
    refine bodyPost_ret (v := .agg #[.slice A2 S.nr c2, .slice (some ⟨b, 0, none⟩) (S.nf + 1) d2, .int .i64 S.deep, .int .i64 S.haul, .int .i64 S.rest]) (by simp [results, Tryd.results49, go_sem, *]) rfl ?_
    have hAb : ∀ (k : Nat) (B : Option Addr), 0 < S.nr → B = A2 → (∀ b1, A2 = some ⟨b1, 0, none⟩ → b1 ≠ k) → ∀ q, A2 = some q → q.block ≠ k := fun k B h0 _ h q e => by
      obtain ⟨b1, e1, _, _⟩ := HF1.out.2.2.2 h0
      rw [e] at e1
      injection e1 with e1
      subst e1
      exact h b1 e
    have hlen : S.nr = 0 → rockL S.rock S.nr = [] := fun h => by rw [h]; rfl
    have hr2 := rocksAt_row.1 ((HS2.out.rocks.mono (bAlloc (bAlloc (Below.refl _ _) (.cells #[.slice A2 S.nr c2, .slice (some ⟨b, 0, none⟩) S.nf d2, .int .i64 S.deep, .int .i64 S.haul, .int .i64 S.rest] 25)) (.cells #[.int .i64 r] 3))))
    have hr3 : RowAt w3 A2 (rockL S.rock S.nr) := by
      rcases Nat.eq_zero_or_pos S.nr with h0 | h0
      · exact .inl (hlen h0)
      · exact hr2.but HBT.out (hAb b A2 h0 rfl fun b1 e => by
          have h1 := HP1.out
          rw [e] at h1
          exact h1.apart HP2.out h0 hn (by decide))
    have bt4 : But w2.heap.size w3 (w3.setCell ⟨w2.heap.size, 1, none⟩ (.slice (some ⟨b, 0, none⟩) (S.nf + 1) d2)) := ⟨by simp [World.setCell], fun k hk => Below.heap_setCell _ _ _ k hk, rfl, rfl, rfl⟩
    have hr4 : RowAt (w3.setCell ⟨w2.heap.size, 1, none⟩ (.slice (some ⟨b, 0, none⟩) (S.nf + 1) d2)) A2 (rockL S.rock S.nr) := by
      rcases Nat.eq_zero_or_pos S.nr with h0 | h0
      · exact .inl (hlen h0)
      · exact hr3.but bt4 (hAb _ A2 h0 rfl fun b1 e => by
          obtain ⟨b2, e2, hlt2, _⟩ := HF1.out.2.2.2 h0
          rw [e] at e2
          injection e2 with e2
          injection e2 with e2
          omega)
    have hi4 := (intsAt_row.1 HI3.out).but bt4 (fun q e => by injection e with e; subst e; simp; omega)
    have hb2 := HB2.out
    have hbw : Below w.heap.size w w3 := by
      have h1 : Below w.heap.size w ((w2.alloc (.cells #[.slice A2 S.nr c2, .slice (some ⟨b, 0, none⟩) S.nf d2, .int .i64 S.deep, .int .i64 S.haul, .int .i64 S.rest] 25)).alloc (.cells #[.int .i64 r] 3)) := bTrans HB.out (bTrans hb2 (bAlloc (bAlloc (Below.refl _ _) _) _))
      have h2 := HBT.out
      exact ⟨h2.os.trans h1.os, h2.tape.trans h1.tape, h2.output.trans h1.output, by rw [h2.size]; exact h1.size, fun k hk => (h2.block k (by omega)).trans (h1.block k hk)⟩
    refine ⟨more_given2 (base := w.heap.size + 2) (rocksAt_row.2 hr4) (intsAt_row.2 hi4) (fun q e => by have := HF1.out.at_ q e; simpa using this) hp (by omega) u2 ?_, by (repeat (first | (with_reducible exact Below.refl _ _) | (with_reducible refine bAlloc ?_ _) | (with_reducible refine bDrew ?_) | (with_reducible refine bGrow ?_ _ _) | (with_reducible refine bSet ?_ ?_ _; (first | exact Nat.le_refl _ | exact Nat.le_add_right _ _ | (simp; omega))) | (with_reducible refine bTrans ?_ (by assumption))))⟩
    (repeat (first | (with_reducible exact Above.refl _ _) | ((with_reducible refine Above.setCell ?_ ?_ _); (focus (simp; done))) | ((with_reducible refine Above.setCell ?_ ?_ _); (focus (simp; omega))) | ((with_reducible refine Above.setNew ?_ ?_ _); (focus (simp; done))) | ((with_reducible refine Above.setNew ?_ ?_ _); (focus (simp; omega))) | (with_reducible refine Above.alloc ?_ _) | (with_reducible refine Above.drew ?_)))
end Go.Proofs.YtbbnpneabmldnaaDoor
