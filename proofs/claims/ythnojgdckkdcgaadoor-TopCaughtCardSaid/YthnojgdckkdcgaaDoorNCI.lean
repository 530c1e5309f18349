/- Parts joined: what all claims of this seat need. -/
import Derived.Test.YthnojgdckkdcgaaDoorNCH
import Derived.Test.YthnojgdckkdcgaaDoorNCG
import Derived.Test.YthnojgdckkdcgaaDoorNCE
set_option linter.unusedSimpArgs false
set_option linter.unusedVariables false
namespace Go.Proofs.YthnojgdckkdcgaaDoor
open Go.RowKit Go.Sort
/-- 'append([]T{}, xs...)' at a step of a region: the copy is the call's own, an empty one too -/
theorem stir_copy3 {P : Program} {o : Oper} {a : Act} (w : World) (s x : Operand) (t : TypeId) (hop : o.op = Op.call { callee := Callee.builtin Builtin.append, args := #[s, x], argTypes := #[t, t] })
    (e : TypeId) (z : Value) (size bytes : Nat) (hinfo : (P.info? e).map (fun i => (i.zero, i.size, i.bytes)) = some (some z, size, bytes)) (ht : P.underlying t = some (.slice e)) (hzs : z.cells.size = size) (hsz : 0 < size)
    (ad : Nat) (A : Option Addr) (m c : Nat) (L : List Value) (hs : a.eval s = .slice (some ⟨ad, 0, none⟩) 0 0) (hx : a.eval x = .slice A m c) (hl : L.length = m * size) (hr : RowAt w A L) (h63 : m ≤ maxLen) (hby : m * bytes ≤ 140737488355328) (N : Nat) (hN : N ≤ w.heap.size) (ho : w.ownsRow N e size (.slice (some ⟨ad, 0, none⟩) 0 0) 0 []) :
    Oper.stirAt P o a w Newer (fun w' v => ShapeOf m v ∧ w'.ownsRow N e size v m L) := by
  obtain ⟨i0, hi, iz0, iz1, iz2⟩ := info_parts hinfo
  have hbytes : (0 + m) * bytes ≤ 140737488355328 := by rw [Nat.zero_add]; exact hby
  rcases Nat.eq_zero_or_pos m with h0 | h0
  · subst h0
    obtain rfl : L = [] := List.eq_nil_of_length_eq_zero (by simpa using hl)
    have hrun : (Builtin.append_ #[t, t] o.type #[.slice (some ⟨ad, 0, none⟩) 0 0, .slice A 0 c]).run P w = .ok (.slice (some ⟨ad, 0, none⟩) 0 0) w := by
      cases A with
      | none => simp [Builtin.append_, run_underlying ht, sizeOf, typeInfo, hi, Builtin.lenOf, Builtin.firstCells, storeCells]
      | some a =>
        have hfc := run_firstCells_some (P := P) w i0.size 0 a 0 c [] (by simp) (fun j u h => by simp at h)
        simp [Builtin.append_, run_underlying ht, sizeOf, typeInfo, hi, Builtin.lenOf, hfc, storeCells]
    unfold Oper.stirAt
    simp only [execOp, hop, resolve, invoke, builtin, List.map_toArray, List.map_cons, List.map_nil, hs, hx, hrun, Result.andThen, Sem.run_bind, Sem.run_pure, Oper.stirUpon]
    exact ⟨Below.refl _ _, ⟨_, _, rfl⟩, ho⟩
  · rcases hr with hr | ⟨b, o', rfl, hlt, hc⟩
    · rw [hr] at hl
      have := Nat.mul_pos h0 hsz
      simp only [List.length_nil] at hl
      omega
    · obtain ⟨v', w', hrun, hown, hg⟩ := run_append_arg_grows (P := P) w t o.type e i0 z size bytes ht hi iz0 iz1 iz2 hzs hsz ⟨ad, 0, none⟩ 0 0 [] (by simp) (fun j u h => by simp at h) ⟨b, o', none⟩ m c L hl (fun j u h => by
        rw [show (⟨b, o', none⟩ : Addr).add j = ⟨b, o' + j, none⟩ from by unfold Addr.add; split <;> simp_all]; exact hc j u h) (by omega) (by omega) hbytes
      simp only [List.nil_append, Nat.zero_add] at hown
      obtain ⟨g, cap, rfl⟩ := owns_form hown h0
      unfold Oper.stirAt
      simp only [execOp, hop, resolve, invoke, builtin, List.map_toArray, List.map_cons, List.map_nil, hs, hx, hrun, Result.andThen, Sem.run_bind, Sem.run_pure, Oper.stirUpon]
      exact ⟨below_grown hg, ⟨_, _, rfl⟩, owns_lower hown hN⟩
def ownsV (N : Nat) (e : TypeId) (size m : Nat) (L : List Value) (w : World) (v : Value) : Prop := w.ownsRow N e size v m L
theorem ownsG {N : Nat} {e : TypeId} {size m : Nat} {L : List Value} : (Stir.held (ShapeOf m) (ownsV N e size m L)).good := ⟨⟨_, 0, 0, rfl⟩, fun _ _ _ hb h => owns_below h hb⟩
/-- a town's value in the midst of Copy -/
def twnS (m : Int) (n : Nat) (v : Value) : Prop := ∃ g c, v = .agg #[.int .i64 m, .slice none 0 0, .slice (some ⟨g, 0, none⟩) n c]
def twnR (N : Nat) (m : Int) (n : Nat) (L : List Value) (w : World) (v : Value) : Prop := ∀ g c, v = .agg #[.int .i64 m, .slice none 0 0, .slice (some ⟨g, 0, none⟩) n c] → w.ownsRow N 63 5 (.slice (some ⟨g, 0, none⟩) n c) n L
theorem twnG {N : Nat} {m : Int} {n : Nat} {L : List Value} : (Stir.held (twnS m n) (twnR N m n L)).good := ⟨⟨_, 0, 0, rfl⟩, fun _ _ _ hb h g c e => owns_below (h g c e) hb⟩
/-- a new box -/
def boxS (v : Value) : Prop := ∃ b, v = .pointer (some ⟨b, 0, none⟩)
def boxR (N : Nat) (t : TypeId) (cs : Array Value) (w : World) (v : Value) : Prop := ∀ b, v = .pointer (some ⟨b, 0, none⟩) → N ≤ b ∧ TBox w b t cs
theorem boxG {N : Nat} {t : TypeId} {cs : Array Value} : (Stir.held boxS (boxR N t cs)).good := ⟨⟨_, 0, rfl⟩, fun _ _ _ hb h b e => ⟨(h b e).1, (h b e).2.mono hb⟩⟩
/-- a copied world -/
def wdS (n : Nat) (v : Value) : Prop := ∃ A c, v = .agg #[.slice A n c]
def wdR (x : Wd) (w : World) (v : Value) : Prop := ∀ u, v = .agg #[u] → WdK w u x
theorem wdG {x : Wd} : (Stir.held (wdS x.n) (wdR x)).good := ⟨⟨_, none, 0, rfl⟩, fun _ _ _ hb h u e => (h u e).mono hb⟩
def wdIn (x : Wd) (w : World) (v : Value) : Prop := ∀ b, v = .slice (some ⟨b, 0, none⟩) 1 1 → ∃ u, w.cell? ⟨b, 0, none⟩ = some u ∧ WdK w u x
theorem wdInG {x : Wd} : (Stir.held one1 (wdIn x)).good := ⟨⟨_, 0, rfl⟩, fun _ _ _ hb h b e => by
  obtain ⟨u, h1, h2⟩ := h b e
  exact ⟨u, (hb.cell (World.block_lt_of_cell? _ _ h1)).trans h1, h2.mono hb⟩⟩
theorem WdK.one {w : World} {u : Value} {x : Wd} (h : WdK w u x) : u.oneCell' = true := by
  obtain ⟨A, c, vs, rfl, _⟩ := h
  rfl
theorem infoFact : (Tryd.prog.info? 63).map (fun i => (i.zero, i.size, i.bytes)) = some (some (.agg #[.int .i64 0, .int .i64 0, .int .i64 0, .int .i64 0, .int .i64 0]), 5, 40) := by kernel_rfl
theorem infoWorld : (Tryd.prog.info? 60).map (fun i => (i.zero, i.size, i.bytes)) = some (some (.agg #[.slice none 0 0]), 1, 24) := by kernel_rfl
theorem owns_setT {w : World} {base : Nat} {e t : TypeId} {size n : Nat} {v : Value} {xs : List Value} (h : w.ownsRow base e size v n xs) {b : Nat} {cs : Array Value} (hb : TBox w b t cs) (ht : t ≠ e) (o : Nat) (u : Value) : (w.setCell ⟨b, o, none⟩ u).ownsRow base e size v n xs :=
  ⟨h.1, h.2.imp id fun ⟨g, cap, cur, h1, h2, h3, h4⟩ => ⟨g, cap, cur, h1, h2, (Below.heap_setCell w ⟨b, o, none⟩ u g (fun e' => by
    have e'' : g = b := e'
    subst e''
    rw [show w.heap[g]? = some (Obj.cells cs t (0, 0)) from hb] at h3
    injection h3 with h3
    injection h3 with _ h3 _
    exact ht h3)).trans h3, h4⟩⟩
def CopyOut (w : World) (base : Nat) (t : Qt) (e : Ending) : Prop := ∃ vW vF, e = .returned (.agg #[.int .i64 t.wells, vW, vF]) ∧ CopyAt w base vW vF t
set_option maxHeartbeats 4000000 in
set_option maxRecDepth 100000 in
theorem copy5_any (Aw Af : Option Addr) (cw cf : Nat) (t : Qt) (w : World) (hf : t.Fits) (hT : QAt w Aw Af t) :
    Calls Tryd.prog 50 #[.agg #[.int .i64 t.wells, .slice Aw t.nw cw, .slice Af t.nf cf]] w fun e w' => CopyOut w' w.heap.size t e ∧ Below w.heap.size w w' := by
  have hb2 := bAlloc (bAlloc (Below.refl w.heap.size w) (.cells #[.int .i64 t.wells, .slice Aw t.nw cw, .slice Af t.nf cf] 39)) (.cells #[.int .i64 0, .slice none 0 0, .slice none 0 0] 39)
  have HT := Lib.hid (hT.mono hb2)
  have HB := Lib.hid hb2
  have HF := Lib.hid hf
  have HFR := Lib.hid (factsAt_iff (hT.mono hb2).facts)
  have hn63 : t.nw ≤ 9223372036854775807 := by have := hf.1; omega
  have HTR := Lib.hid (TBox.new (w.alloc (.cells #[.int .i64 t.wells, .slice Aw t.nw cw, .slice Af t.nf cf] 39)) #[.int .i64 0, .slice none 0 0, .slice none 0 0] 39)
  clear hT hb2 hf
  go_enter Tryd.func50, Tryd.ntmps50
  go_wp2_with fail
  refine wp_region_stir 8 [.const (.pointer (some ⟨w.heap.size, 0, none⟩)), .const (.int .i64 t.wells), .held emptyV (ownsV (w.heap.size + 2) 63 5 0 []), .const (.pointer (some ⟨w.heap.size, 2, none⟩)), .const (.slice Af t.nf cf), .held (ShapeOf t.nf) (ownsV (w.heap.size + 2) 63 5 t.nf (factL t.fact t.nf)), .held (twnS t.wells t.nf) (twnR (w.heap.size + 2) t.wells t.nf (factL t.fact t.nf)), .held boxS (boxR (w.heap.size + 2) 39 #[.int .i64 0, .slice none 0 0, .slice none 0 0])]
    (by kernel_rfl) (by kernel_rfl) rfl ⟨trivial, trivial, ⟨⟨_, 0, rfl⟩, fun _ _ _ hb h => owns_below h hb⟩, trivial, trivial, ownsG, twnG, boxG, trivial⟩ (crossAll_no _ _ _ _ trivial) ?_
  iterate 2 refine wpStir_const (by go_simp) ?_
  refine wpStir_held rfl (fun w' hb hd => ?_) (fun v hv => ?_)
  · clear hd
    have hz := hb.size
    simp only [World.size_alloc] at hz
    have hl := World.ownsRow_lit (base := w.heap.size + 2) (e := 63) (size := 5) w' #[] 0 (by omega) (by decide) rfl
    go_simp
    exact ⟨bAlloc (Below.refl _ _) _, ⟨_, rfl⟩, hl⟩
  obtain ⟨b1, rfl⟩ := hv
  iterate 2 refine wpStir_const (by go_simp) ?_
  simp only [Act.put, List.setIfInBounds_toArray, List.set_cons_succ, List.set_cons_zero]
  refine wpStir_held rfl (fun w' hb hd => ?_) (fun v hv => ?_)
  · have h1 : ownsV (w.heap.size + 2) 63 5 0 [] w' (.slice (some ⟨b1, 0, none⟩) 0 0) := hd.1 (by kernel_rfl)
    clear hd
    have hz := hb.size
    simp only [World.size_alloc] at hz
    exact stir_copy3 w' (Operand.tmp 7) (Operand.tmp 9) 37 rfl 63 (.agg #[.int .i64 0, .int .i64 0, .int .i64 0, .int .i64 0, .int .i64 0]) 5 40 infoFact Tryd.underlying37 rfl (by decide) b1 Af t.nf cf (factL t.fact t.nf) rfl rfl (factL_len _ _) (HFR.out.mono hb) (by unfold maxLen; have := HF.out.2.1; omega) (by have := HF.out.2.1; omega) _ (by omega) h1
  obtain ⟨b2, c2, rfl⟩ := hv
  refine wpStir_held rfl (fun w' hb hd => ?_) (fun v hv => ?_)
  · have h1 : ownsV (w.heap.size + 2) 63 5 t.nf (factL t.fact t.nf) w' (.slice (some ⟨b2, 0, none⟩) t.nf c2) := hd.1 (by kernel_rfl)
    clear hd
    go_simp
    refine ⟨⟨_, _, rfl⟩, fun g c e => ?_⟩
    simp only [Value.agg.injEq, Array.mk.injEq, List.cons.injEq, Value.slice.injEq, Option.some.injEq, Addr.mk.injEq, and_true, true_and] at e
    obtain ⟨rfl, rfl⟩ := e
    exact h1
  obtain ⟨b3, c3, rfl⟩ := hv
  refine wpStir_held rfl (fun w' hb hd => ?_) (fun v hv => ?_)
  · clear hd
    have hz := hb.size
    simp only [World.size_alloc] at hz
    go_simp
    refine ⟨bAlloc (Below.refl _ _) _, ⟨_, rfl⟩, fun b e => ?_⟩
    obtain rfl : w'.heap.size = b := by simpa using e
    exact ⟨by omega, TBox.new _ _ _⟩
  obtain ⟨b7, rfl⟩ := hv
  simp only [Act.put, List.setIfInBounds_toArray, List.set_cons_succ, List.set_cons_zero]
  refine wpStir_end (fun w5 hb5 hd => ?_)
  obtain ⟨hb7, htb⟩ := hd.1 b7 rfl
  have hfx := hd.2.1 b3 c3 rfl
  clear hd
  have HFX := Lib.hid hfx
  have HTB := Lib.hid htb
  have HB5 := Lib.hid hb5
  have x0 : w5.cell? ⟨b7, 0, none⟩ = some (.int .i64 0) := htb.cell 0
  have x1 : w5.cell? ⟨b7, 1, none⟩ = some (.slice none 0 0) := htb.cell 1
  have x2 : w5.cell? ⟨b7, 2, none⟩ = some (.slice none 0 0) := htb.cell 2
  have y0 := htb.frozen 0
  have y1 := htb.frozen 1
  have y2 := htb.frozen 2
  have hz5 := hb5.size
  simp only [World.size_alloc] at hz5
  clear hfx htb hb5
  simp only [List.drop_succ_cons, List.drop_zero]
  go_wp2_with fail
  have HT6 := Lib.hid (((HTB.out.set 0 (.int .i64 t.wells)).set 1 (.slice none 0 0)).set 2 (.slice (some ⟨b3, 0, none⟩) t.nf c3))
  have HF6 := Lib.hid (owns_setT (owns_setT (owns_setT HFX.out HTB.out (by decide) 0 (.int .i64 t.wells)) (HTB.out.set 0 (.int .i64 t.wells)) (by decide) 1 (.slice none 0 0)) ((HTB.out.set 0 (.int .i64 t.wells)).set 1 (.slice none 0 0)) (by decide) 2 (.slice (some ⟨b3, 0, none⟩) t.nf c3))
  have HB6 := Lib.hid (show Below (w.heap.size + 2) ((w.alloc (.cells #[.int .i64 t.wells, .slice Aw t.nw cw, .slice Af t.nf cf] 39)).alloc (.cells #[.int .i64 0, .slice none 0 0, .slice none 0 0] 39)) _ from Below.setCell (p := ⟨b7, 2, none⟩) (Below.setCell (p := ⟨b7, 1, none⟩) (Below.setCell (p := ⟨b7, 0, none⟩) (by have := HB5.out; simpa using this) (show w.heap.size + 2 ≤ b7 from hb7) (.int .i64 t.wells)) (show w.heap.size + 2 ≤ b7 from hb7) (.slice none 0 0)) (show w.heap.size + 2 ≤ b7 from hb7) (.slice (some ⟨b3, 0, none⟩) t.nf c3))
  have hlt7 := HTB.out.lt
  have hlt3 : b3 < w5.heap.size := (HFX.out.lt b3 rfl).2
  clear x0 x1 x2 y0 y1 y2
  go_loopw [4] (fun s wr => ∃ (k : Nat) (V : Value) (us : List Value), k ≤ t.nw ∧ s = .int .i64 k ∧ TBox wr b7 39 #[.int .i64 t.wells, V, .slice (some ⟨b3, 0, none⟩) t.nf c3] ∧ wr.ownsRow w5.heap.size 60 1 V k us ∧ WsRows wr t.world k us ∧ w5.heap.size ≤ wr.heap.size ∧ wr.ownsRow (w.heap.size + 2) 63 5 (.slice (some ⟨b3, 0, none⟩) t.nf c3) t.nf (factL t.fact t.nf) ∧ Below (w.heap.size + 2) ((w.alloc (.cells #[.int .i64 t.wells, .slice Aw t.nw cw, .slice Af t.nf cf] 39)).alloc (.cells #[.int .i64 0, .slice none 0 0, .slice none 0 0] 39)) wr) (fun s _ => t.nw - (intOf s).toNat)
  case atStart => exact ⟨0, .slice none 0 0, [], Nat.zero_le _, rfl, HT6.out, World.ownsRow_nil _ _ _ _, ⟨rfl, fun j u h => by simp at h⟩, by simp, HF6.out, HB6.out⟩
  case round =>
    obtain ⟨k, V, us, hk, rfl, hbx, hown, hrows, hsz5, hfacts, hbel⟩ := hrel
    have HX := Lib.hid hbx
    have HO := Lib.hid hown
    have HR := Lib.hid hrows
    have HFA := Lib.hid hfacts
    have HL := Lib.hid hbel
    have hbw : Below w.heap.size w wr := bTrans HB.out (by simpa using hbel)
    have HW := Lib.hid hbw
    have HTW := Lib.hid (HT.out.worlds.mono (show Below ((w.alloc (.cells #[.int .i64 t.wells, .slice Aw t.nw cw, .slice Af t.nf cf] 39)).alloc (.cells #[.int .i64 0, .slice none 0 0, .slice none 0 0] 39)).heap.size _ wr by simpa using hbel))
    have p0 := (hbel.cell (p := ⟨w.heap.size, 0, none⟩) (by show w.heap.size < w.heap.size + 2; omega)).trans (show _ = some (.int .i64 t.wells) by simp [go_sem])
    have p1 := (hbel.cell (p := ⟨w.heap.size, 1, none⟩) (by show w.heap.size < w.heap.size + 2; omega)).trans (show _ = some (.slice Aw t.nw cw) by simp [go_sem])
    have q1 : wr.cell? ⟨b7, 1, none⟩ = some V := hbx.cell 1
    have hz : b7 < wr.heap.size := hbx.lt
    have hy : w.heap.size < wr.heap.size := by omega
    clear hbx hown hrows hfacts hbel hbw
    by_cases hlt : k < t.nw
    · rcases HTW.out with h0 | ⟨b, o, hA, hb, hc⟩
      · omega
      obtain ⟨A', c', c0, hrow, hlen⟩ := hc k hlt
      subst hA
      obtain ⟨x, hx⟩ : ∃ x, t.world k = x := ⟨_, rfl⟩
      rw [hx] at c0 hrow hlen
      have HXE := Lib.hid hx
      have HXF := Lib.hid (show x.Fits by have := HF.out.2.2 k hlt; rw [hx] at this; exact this)
      have HROW := Lib.hid hrow
      have k1 : (k : Int) < (t.nw : Int) := by omega
      have k0 : (0 : Int) ≤ (k : Int) := by omega
      have HN := Lib.hid (show (k + 1) * 24 ≤ 140737488351232 by have := HF.out.1; omega)
      clear hc hrow hx
      go_wp2_with fail
      refine wp_region_pin 9 [.const (.pointer (some ⟨b7, 1, none⟩)), .const V, .const (.pointer (some ⟨w.heap.size, 1, none⟩)), .const (.slice (some ⟨b, o, none⟩) t.nw cw), .const (.int .i64 k), .const (.pointer (some ⟨b, o + k, none⟩)), .const (.agg #[.slice A' x.n c']), .held (wdS x.n) (wdR x), .held one1 (wdIn x)]
        [.pointer (some ⟨b7, 1, none⟩)] (by kernel_rfl) (by kernel_rfl) rfl ⟨trivial, trivial, trivial, trivial, trivial, trivial, trivial, wdG, wdInG, trivial⟩ (crossAll_no _ _ _ _ trivial) rfl rfl (fun j u hj => ?_) ?_
      · match j, hj with
        | 0, hj =>
          obtain rfl : Value.pointer (some ⟨b7, 1, none⟩) = u := by simpa using hj
          exact ⟨_, rfl, rfl, fun w' => by go_simp⟩
      iterate 7 refine wpStir_const (by go_simp) ?_
      simp only [Act.put, List.setIfInBounds_toArray, List.set_cons_succ, List.set_cons_zero]
      refine wpStir_held rfl (fun w' hb hd => ?_) (fun v hv => ?_)
      · clear hd
        have hcw := Lib.hid (copyWorld5_any A' c' x w' HXF.out (HROW.out.mono hb))
        go_simp
        refine hcw.out.mono ?_
        rintro e w'' ⟨⟨v, vs, rfl, ho, hr⟩, hb'⟩
        obtain ⟨A3, c3', rfl, h3⟩ := RowK.own ho
        refine ⟨_, rfl, hb', ⟨_, _, rfl⟩, fun u e => ?_⟩
        obtain rfl : Value.slice A3 x.n c3' = u := by simpa using e
        exact ⟨A3, c3', vs, rfl, h3, hr⟩
      obtain ⟨A3, c4, rfl⟩ := hv
      refine wpStir_held rfl (fun w' hb hd => ?_) (fun v hv => ?_)
      · have h1 : WdK w' (.slice A3 x.n c4) x := hd.1 (by kernel_rfl) _ rfl
        clear hd
        go_simp
        refine ⟨bAlloc (Below.refl _ _) _, ⟨_, rfl⟩, fun b' hb' => ?_⟩
        obtain rfl : w'.heap.size = b' := by simpa using hb'
        exact ⟨_, by simp [go_sem], h1.mono (bAlloc (Below.refl _ _) _)⟩
      obtain ⟨b9, rfl⟩ := hv
      simp only [Act.put, List.setIfInBounds_toArray, List.set_cons_succ, List.set_cons_zero]
      refine wpStir_end (fun w9 hb9 hd => ?_)
      obtain ⟨u, h4, h5⟩ := hd.1 b9 rfl
      clear hd
      have HX9 := Lib.hid (HX.out.mono hb9)
      have HO9 := Lib.hid (owns_below HO.out hb9)
      have HR9 := Lib.hid (HR.out.mono hb9)
      have HFA9 := Lib.hid (owns_below HFA.out hb9)
      have HK9 := Lib.hid h5
      have HL9 := Lib.hid (HL.out.trans (hb9.mono (by have := HX.out.lt; omega)))
      refine stir_own (Operand.tmp 20) (Operand.tmp 27) 36 rfl w5.heap.size 60 (.agg #[.slice none 0 0]) 1 24 infoWorld Tryd.underlying36 rfl (by decide) V k us rfl HO9.out ⟨b9, 0, none⟩ 1 1 [u] rfl rfl (news1 h4) (one1c h5.one) (by unfold maxLen; have := HN.out; omega) (by have := HN.out; omega) (by have := hb9.size; omega) (fun v' w10 hown10 hg10 => ?_)
      obtain ⟨A6, c6, rfl, _⟩ := RowK.own hown10
      have hnb : some b7 ≠ V.ownBlock := fun e => by have := HO9.out.lt _ e.symm; omega
      have hnf : (Value.slice (some ⟨b3, 0, none⟩) t.nf c3).ownBlock ≠ V.ownBlock := fun e => by
        have := HO9.out.lt b3 e.symm
        omega
      have HX10 := Lib.hid (HX9.out.grown hg10 hnb)
      have hk10 : Kept [3, 23] w9 w10 := Kept.of_own hg10 HO9.out (by decide)
      have HR10 := Lib.hid (HR9.out.kept hk10 (by simp) (by simp))
      have HK10 := Lib.hid (HK9.out.kept hk10 (by simp) (by simp))
      have HFA10 := Lib.hid (HFA9.out.kept hg10 (.inr hnf))
      have HL10 := Lib.hid (HL9.out.grown hg10 (by have := HX9.out.lt; omega) (fun q hq => by have := (HO9.out.lt q hq).1; omega))
      have HO10 := Lib.hid hown10
      have hz10 : w5.heap.size ≤ w10.heap.size := by have := hg10.size; have := hb9.size; omega
      have r1 : w10.cell? ⟨b7, 1, none⟩ = some V := HX10.out.cell 1
      have r2 := HX10.out.frozen 1
      clear hown10 hg10 h4 h5 hb9 p0 p1 q1 c0 hnb hnf hk10
      simp only [putF, Act.put, List.setIfInBounds_toArray, List.set_cons_succ, List.set_cons_zero, List.drop_succ_cons, List.drop_zero]
      go_wp2_with fail
      go_roundw
      case rel =>
        have hk11 : Kept [3, 23] w10 (w10.setCell ⟨b7, 1, none⟩ (.slice A6 (k + 1) c6)) := Kept.set HX10.out (by decide) 1 _
        have hs11 : WsRows (w10.setCell ⟨b7, 1, none⟩ (.slice A6 (k + 1) c6)) t.world (k + 1) (us ++ [u]) := (HR10.out.kept hk11 (by simp) (by simp)).snoc (by rw [HXE.out]; exact HK10.out.kept hk11 (by simp) (by simp)) (by rw [HXE.out]; have := HXF.out.1; omega)
        refine ⟨k + 1, .slice A6 (k + 1) c6, _, by omega, ?_, HX10.out.set 1 (.slice A6 (k + 1) c6), owns_set HO10.out (by omega) 1 (.slice A6 (k + 1) c6), hs11, by simpa using hz10, owns_setT HFA10.out HX10.out (by decide) 1 _, HL10.out.setCell (p := ⟨b7, 1, none⟩) (show w.heap.size + 2 ≤ b7 from hb7) (.slice A6 (k + 1) c6)⟩
        go_num
      case measure => simp [intOf]; omega
    · obtain rfl : k = t.nw := by omega
      obtain ⟨A6, c6, rfl, _⟩ := RowK.own HO.out
      have q0 : wr.cell? ⟨b7, 0, none⟩ = some (.int .i64 t.wells) := HX.out.cell 0
      have q2 : wr.cell? ⟨b7, 2, none⟩ = some (.slice (some ⟨b3, 0, none⟩) t.nf c3) := HX.out.cell 2
      have hTR : TBox wr (w.heap.size + 1) 39 #[.int .i64 0, .slice none 0 0, .slice none 0 0] := (HL.out.block (w.heap.size + 1) (by omega)).trans (by have := HTR.out; simpa [TBox] using this)
      have HTR9 := Lib.hid hTR
      have s0 : wr.cell? ⟨w.heap.size + 1, 0, none⟩ = some (.int .i64 0) := hTR.cell 0
      have s1 : wr.cell? ⟨w.heap.size + 1, 1, none⟩ = some (.slice none 0 0) := hTR.cell 1
      have s2 : wr.cell? ⟨w.heap.size + 1, 2, none⟩ = some (.slice none 0 0) := hTR.cell 2
      have t0 := hTR.frozen 0
      have t1 := hTR.frozen 1
      have t2 := hTR.frozen 2
      have hy1 : w.heap.size + 1 < wr.heap.size := hTR.lt
      clear hTR
      go_wp2_with fail
      have hT0 := HTR9.out.set 0 (.int .i64 t.wells)
      have hT1 := hT0.set 1 (.slice A6 t.nw c6)
      have hk : Kept [3, 23] wr (((wr.setCell ⟨w.heap.size + 1, 0, none⟩ (.int .i64 t.wells)).setCell ⟨w.heap.size + 1, 1, none⟩ (.slice A6 t.nw c6)).setCell ⟨w.heap.size + 1, 2, none⟩ (.slice (some ⟨b3, 0, none⟩) t.nf c3)) :=
        ((Kept.set HTR9.out (by decide) 0 _).trans (Kept.set hT0 (by decide) 1 _)).trans (Kept.set hT1 (by decide) 2 _)
      refine bodyPost_ret (v := .agg #[.int .i64 t.wells, .slice A6 t.nw c6, .slice (some ⟨b3, 0, none⟩) t.nf c3]) (by simp [results, Tryd.results50, go_sem, *]) rfl ⟨⟨_, _, rfl, ⟨us, ?_, HR.out.kept hk (by simp) (by simp)⟩, ?_⟩, ?_⟩
      · exact owns_lower (owns_setT (owns_setT (owns_setT HO.out HTR9.out (by decide) 0 _) hT0 (by decide) 1 _) hT1 (by decide) 2 _) (by omega)
      · exact owns_lower (owns_setT (owns_setT (owns_setT HFA.out HTR9.out (by decide) 0 _) hT0 (by decide) 1 _) hT1 (by decide) 2 _) (by omega)
      · exact Below.setCell (p := ⟨w.heap.size + 1, 2, none⟩) (Below.setCell (p := ⟨w.heap.size + 1, 1, none⟩) (Below.setCell (p := ⟨w.heap.size + 1, 0, none⟩) HW.out (by simp) (.int .i64 t.wells)) (by simp) (.slice A6 t.nw c6)) (by simp) (.slice (some ⟨b3, 0, none⟩) t.nf c3)
end Go.Proofs.YthnojgdckkdcgaaDoor

namespace Go.Proofs.YthnojgdckkdcgaaDoor
open Go.RowKit Go.Sort
theorem neqFact (w : World) (a b c d e : Int) : (binOp .neq 63 (.agg #[.int .i64 a, .int .i64 b, .int .i64 c, .int .i64 d, .int .i64 e]) (.agg #[.int .i64 a, .int .i64 b, .int .i64 c, .int .i64 d, .int .i64 e])).run Tryd.prog w = .ok (.bool false) w := by
  simp [go_sem]
attribute [local go_sem] neqFact
end Go.Proofs.YthnojgdckkdcgaaDoor

namespace Go.Proofs.YthnojgdckkdcgaaDoor
open Go.RowKit Go.Sort
/-! ### One fact more -/
def Qt.add (t : Qt) (f : Fact) : Qt := ⟨t.wells, t.nw, t.world, t.nf + 1, fun i => if i < t.nf then t.fact i else f⟩
/-! ### One world more -/
/-! ### Another order -/
/-! ### Fewer worlds: spans, and what is known -/
end Go.Proofs.YthnojgdckkdcgaaDoor

namespace Go.Proofs.YthnojgdckkdcgaaDoor
open Go.RowKit Go.Sort Go.Shelf
section
variable {P : Program} {ops : Array Oper} {md : Region.Mode} {n : Nat} {F : Fence} {Cl : World → Prop}
/-- a fence that lets everything by -/
structure Open (F : Fence) (P : Program) : Prop where
  fn : ∀ f, F.fn f
  depth : F.depth.isSome = false
  call : ∀ {n f : Nat} {args : Array Value} {w : World} {R : Ending → World → Prop}, Calls P f args w R → CallsIn F n P f args w R
theorem openWide (P : Program) : Open Fence.wide P := ⟨fun _ => trivial, rfl, fun h => callsIn_wide.2 h⟩
theorem openRound (P : Program) (l : Nat) : Open (Fence.wide.inRound l) P := ⟨fun _ => trivial, rfl, fun h => CallsIn.inRound l (callsIn_wide.2 h)⟩
def clsUpon (P : Program) (Cl : World → Prop) (w : World) (v : Value) : Result Next → Prop
  | .ok (.value u) w' => Cl w' ∧ u = v
  | .ok .skip w' => Cl w' ∧ v = undef
  | .ok (.enter f args) w' => w' = w ∧ Calls P f args w (fun e w'' => e = .returned v ∧ Cl w'')
  | _ => False
def clsAt (P : Program) (Cl : World → Prop) (o : Oper) (a : Act) (w : World) (v : Value) : Prop := clsUpon P Cl w v ((execOp a.eval o).run P w)
attribute [go_sem] clsAt clsUpon
theorem wpIn_of_cls (hF : Open F P) {o : Oper} {a : Act} {w : World} {v : Value} {K : Act → World → Prop} {Q : Exit → Act → World → Prop} (hdf : ∀ c, o.op ≠ .defer c) (h : clsAt P Cl o a w v) (hK : ∀ w', Cl w' → K (a.put o.dst v) w') : o.wpIn F n P a w K Q := by
  unfold clsAt at h
  unfold Oper.wpIn
  refine ⟨fun f _ => hF.fn f, ?_⟩
  rw [Oper.semAt_eq _ _ _ hdf]
  generalize (execOp a.eval o).run P w = r at *
  cases r with
  | ok n' w' =>
    cases n' <;> simp only [clsUpon] at h <;> simp only [Oper.uponIn]
    case value u =>
      obtain ⟨e1, e2⟩ := h
      rw [e2]
      exact hK _ e1
    case skip =>
      obtain ⟨e1, e2⟩ := h
      rw [← e2]
      exact hK _ e1
    case enter f args =>
      obtain ⟨e1, hc⟩ := h
      rw [e1]
      exact ⟨(fun h => by rw [hF.depth] at h; cases h), (hF.call hc).mono fun e w'' ⟨he, hw''⟩ => by subst he; exact hK _ hw''⟩
  | halt x w' => simp only [clsUpon] at h
def wpCls (P : Program) (ops : Array Oper) (Cl : World → Prop) (Q : Act → Prop) : List Oper → List Value → Act → Prop
  | _, [], a => Q a
  | o :: rest, c :: cs, a => (if Region.wanted o (yielded ops a.tmps) then ∀ w', Cl w' → clsAt P Cl o a w' c else c = undef) ∧ wpCls P ops Cl Q rest cs (a.put o.dst c)
  | [], _ :: _, _ => False
theorem wpCls_nil {Q : Act → Prop} {l : List Oper} {a : Act} (h : Q a) : wpCls P ops Cl Q l [] a := by cases l <;> exact h
theorem wpCls_step {Q : Act → Prop} {o : Oper} {rest : List Oper} {c : Value} {cs : List Value} {a : Act} (h1 : if Region.wanted o (yielded ops a.tmps) then ∀ w', Cl w' → clsAt P Cl o a w' c else c = undef) (h2 : wpCls P ops Cl Q rest cs (a.put o.dst c)) : wpCls P ops Cl Q (o :: rest) (c :: cs) a := ⟨h1, h2⟩
theorem wpCls_do {Q : Act → Prop} {o : Oper} {rest : List Oper} {c : Value} {cs : List Value} {a : Act} (hg : o.guard = none) (h1 : ∀ w', Cl w' → clsAt P Cl o a w' c) (h2 : wpCls P ops Cl Q rest cs (a.put o.dst c)) : wpCls P ops Cl Q (o :: rest) (c :: cs) a := by
  refine wpCls_step ?_ h2
  unfold Region.wanted
  rw [hg, if_pos rfl]
  exact h1
theorem wpCls_at {Q : Act → Prop} {V : Nat → Value} {cs0 : List Value} {a0 : Act} (hV : ∀ (k : Nat) (c : Value), cs0[k]? = some c → V k = c) :
    ∀ (cs : List Value) (k : Nat) (l : List Oper), (∀ j, l[j]? = ops[k + j]?) → (∀ j, cs[j]? = cs0[k + j]?) → k + cs.length = cs0.length → wpCls P ops Cl Q l cs (frameOf ops V (fun _ => true) a0 k) →
      (∀ j, k ≤ j → j < cs0.length → ∃ o, ops[j]? = some o ∧ if Region.wanted o (yielded ops (frameOf ops V (fun _ => true) a0 j).tmps) then ∀ w', Cl w' → clsAt P Cl o (frameOf ops V (fun _ => true) a0 j) w' (V j) else V j = undef) ∧ Q (frameOf ops V (fun _ => true) a0 cs0.length)
  | [], k, l, _, hh, hn, H => by
    have e : k = cs0.length := by simpa using hn
    subst e
    exact ⟨fun j hj hj2 => by omega, by cases l <;> exact H⟩
  | c :: cs, k, [], hl, hh, hn, H => H.elim
  | c :: cs, k, o :: l, hl, hh, hn, H => by
    have h0 : ops[k]? = some o := by simpa using (hl 0).symm
    have h1 : cs0[k]? = some c := by simpa using (hh 0).symm
    obtain ⟨H1, H2⟩ := H
    have e1 : frameOf ops V (fun _ => true) a0 (k + 1) = (frameOf ops V (fun _ => true) a0 k).put o.dst c := by
      rw [frameOf, if_pos rfl]; simp [dstOf, h0, hV k c h1]
    obtain ⟨g1, g2⟩ := wpCls_at hV cs (k + 1) l (fun j => by have := hl (j + 1); simpa [Nat.add_assoc, Nat.add_comm 1 j] using this) (fun j => by have := hh (j + 1); simpa [Nat.add_assoc, Nat.add_comm 1 j] using this) (by simp only [List.length_cons] at hn; omega) (by rw [e1]; exact H2)
    refine ⟨fun j hj hj2 => ?_, g2⟩
    rcases Nat.eq_or_lt_of_le hj with e | e
    · subst e
      exact ⟨o, h0, by rw [hV k c h1]; exact H1⟩
    · exact g1 j e hj2
theorem wpIn_region_cls {rid : Nat} {Q : Exit → Act → World → Prop} {a : Act} {w : World} {l : List Oper} (hF : Open F P) (m : Nat) (cs : List Value) (Cl : World → Prop) (hm : P.follows .mixedOrders = true) (hB : (stirB .any l.toArray m && noDefer l.toArray) = true) (hn : cs.length = m) (h0 : Cl { w with drawn := w.drawn + 1 })
    (h : wpCls P l.toArray Cl (fun a' => ∀ w', Cl w' → wpListIn F n P l.toArray Q (l.drop m) a' w') l cs a) : (Code.region rid l.toArray true).wpIn F n P Q a w := by
  rw [Bool.and_eq_true] at hB
  obtain ⟨hB, hnd⟩ := hB
  unfold stirB at hB
  simp only [Bool.and_eq_true, decide_eq_true_eq, List.all_eq_true, List.mem_range, Bool.or_eq_true] at hB
  obtain ⟨⟨hord, hnl⟩, htail⟩ := hB
  have H := ordered_of hord
  have hsz : l.toArray.size = l.length := by simp
  obtain ⟨V, hVd⟩ : ∃ V : Nat → Value, V = fun k => cs[k]?.getD undef := ⟨_, rfl⟩
  have hV : ∀ (k : Nat) (c : Value), cs[k]? = some c → V k = c := fun k c hk => by rw [hVd]; simp [hk]
  obtain ⟨key, fin⟩ := wpCls_at (P := P) (ops := l.toArray) (Cl := Cl) (a0 := a) hV cs 0 l (fun j => by simp) (fun j => by simp) (by omega) h
  rw [hn] at fin key
  have final : ∀ (listed : Array Bool) (w' : World), Cl w' → (∀ j, j < m → listed.getD j false = true) → (∀ j, m ≤ j → listed.getD j false = false) → wpListIn F n P l.toArray Q (l.drop m) (frameOf l.toArray V (fun k => listed.getD k false) a l.toArray.size) w' := by
    intro listed w' hc hall hno
    have e1 : frameOf l.toArray V (fun k => listed.getD k false) a m = frameOf l.toArray V (fun _ => true) a m := frameOf_congr m fun j hj => ⟨hall j hj, fun _ => rfl⟩
    have e2 : ∀ k, m ≤ k → frameOf l.toArray V (fun k => listed.getD k false) a k = frameOf l.toArray V (fun k => listed.getD k false) a m := by
      intro k
      induction k with
      | zero => intro hm'; obtain rfl : m = 0 := by omega
                rfl
      | succ k ih =>
        intro hm'
        rcases Nat.eq_or_lt_of_le hm' with e | e
        · rw [e]
        · rw [frameOf, ih (by omega), if_neg]; rw [hno k (by omega)]; exact Bool.false_ne_true
    rw [e2 _ hnl, e1]
    exact fin w' hc
  refine wpIn_region_any hm ?_
  refine wpAnyIn_inv (fun listed a' w' => ((∀ j, m ≤ j → listed.getD j false = false) ∧ a' = frameOf l.toArray V (fun k => listed.getD k false) a l.toArray.size ∧ Cl w') ∨
      ∃ k, m ≤ k ∧ (∀ j, j < k → listed.getD j false = true) ∧ (∀ j, k ≤ j → listed.getD j false = false) ∧ wpListIn F n P l.toArray Q (l.drop k) a' w') ?_ ?_ _ _ _ _ (left_le _ _) Shut.none (.inl ⟨fun j _ => ?_, ?_, h0⟩)
  · intro listed a' w' i hsh hI hr
    obtain ⟨hun, oi, hoi, _⟩ := mem_ready.1 hr
    have hi : i < l.toArray.size := (Array.getElem?_eq_some_iff.1 hoi).1
    have hil : i < listed.size := by rw [hsh.size]; exact hi
    have hunf := listed_both hun
    have hset : (listed.setIfInBounds i true).getD i false = true := set_same hil false
    have tailstep : ∀ k, m ≤ k → (∀ j, j < k → listed.getD j false = true) → (∀ j, k ≤ j → listed.getD j false = false) → m ≤ i → wpListIn F n P l.toArray Q (l.drop k) a' w' →
        wpOpIn F n P l.toArray Q i (fun a'' w'' => ((∀ j, m ≤ j → (listed.setIfInBounds i true).getD j false = false) ∧ a'' = frameOf l.toArray V (fun k => (listed.setIfInBounds i true).getD k false) a l.toArray.size ∧ Cl w'') ∨
          ∃ k, m ≤ k ∧ (∀ j, j < k → (listed.setIfInBounds i true).getD j false = true) ∧ (∀ j, k ≤ j → (listed.setIfInBounds i true).getD j false = false) ∧ wpListIn F n P l.toArray Q (l.drop k) a'' w'') a' w' := by
      intro k hnk hall hno hni hw
      have him : i = k := by
        rcases Nat.lt_trichotomy i k with h' | h' | h'
        · rw [hall i h'] at hunf; cases hunf
        · exact h'
        · have h1 := ((htail i hi).resolve_left (by omega)) k h'
          have h2 := reach_listed hsh 6 i k (fun j hj => waits_listed hr hj) h1
          rw [hno k (Nat.le_refl _)] at h2; cases h2
      subst him
      have hli : l[i]? = some oi := by simpa using hoi
      have hdrop : l.drop i = oi :: l.drop (i + 1) := by
        have hlt : i < l.length := by omega
        rw [List.drop_eq_getElem_cons hlt]
        congr 1
        rw [List.getElem?_eq_getElem hlt] at hli
        exact Option.some.inj hli
      rw [hdrop] at hw
      simp only [wpListIn] at hw
      have hall' : ∀ j, j < i + 1 → (listed.setIfInBounds i true).getD j false = true := fun j hj => by
        rcases Nat.lt_or_ge j i with h' | h'
        · rw [getD_set_ne false (by omega)]; exact hall j h'
        · obtain rfl : j = i := by omega
          exact hset
      have hno' : ∀ j, i + 1 ≤ j → (listed.setIfInBounds i true).getD j false = false := fun j hj => by
        rw [getD_set_ne false (by omega)]; exact hno j (by omega)
      unfold Go.wpOpIn
      simp only [hoi]
      split
      · rename_i hwt
        rw [if_pos hwt] at hw
        exact Oper.wpIn_mono (fun a'' w'' h'' => .inr ⟨i + 1, by omega, hall', hno', h''⟩) hw
      · rename_i hwt
        rw [if_neg hwt] at hw
        exact ⟨fun f _ => hF.fn f, .inr ⟨i + 1, by omega, hall', hno', by first | exact hw.2 | exact hw⟩⟩
    rcases hI with ⟨hno, rfl, hc⟩ | ⟨k, hnk, hall, hno, hw⟩
    · rcases Nat.lt_or_ge i m with hin | hin
      · obtain ⟨o', ho', hask⟩ := key i (Nat.zero_le _) hin
        obtain rfl : oi = o' := Option.some.inj (hoi.symm.trans ho')
        have hsee := H.sees (V := V) (V' := V) (M := fun _ => true) (a := a) hsh hoi hr (fun k _ hk => by cases hk) (fun _ _ => rfl)
        have hput : (frameOf l.toArray V (fun k => listed.getD k false) a l.toArray.size).put oi.dst (V i) = frameOf l.toArray V (fun k => (listed.setIfInBounds i true).getD k false) a l.toArray.size := by
          have e1 : dstOf l.toArray i = oi.dst := by simp [dstOf, hoi]
          rw [H.frame_put hsh hi hun, e1]
        have hnext : ∀ w'', Cl w'' → ((∀ j, m ≤ j → (listed.setIfInBounds i true).getD j false = false) ∧ (frameOf l.toArray V (fun k => listed.getD k false) a l.toArray.size).put oi.dst (V i) = frameOf l.toArray V (fun k => (listed.setIfInBounds i true).getD k false) a l.toArray.size ∧ Cl w'') := fun w'' hc' =>
          ⟨fun j hj => by rw [getD_set_ne false (by omega)]; exact hno j hj, hput, hc'⟩
        unfold Go.wpOpIn
        simp only [hoi]
        rw [wanted_of_slots hsee]
        by_cases hwt : Region.wanted oi (yielded l.toArray (frameOf l.toArray V (fun _ => true) a i).tmps) = true
        · rw [if_pos hwt] at hask
          rw [if_pos hwt]
          refine wpIn_of_cls hF (noDefer_spec hnd hoi) (v := V i) ?_ fun w'' hc' => .inl (hnext w'' hc')
          have h1 := hask w' hc
          unfold clsAt at h1 ⊢
          rwa [exec_of_slots (ops := l.toArray) (fun cs b => Region.noSelect_spec H.sel i oi cs b hoi) hsee]
        · rw [if_neg hwt] at hask
          rw [if_neg hwt]
          refine ⟨fun f _ => hF.fn f, .inl ?_⟩
          rw [← hask]
          exact hnext w' hc
      · have hall : ∀ j, j < m → listed.getD j false = true := fun j hj => reach_listed hsh 6 i j (fun k hk => waits_listed hr hk) (((htail i hi).resolve_left (by omega)) j (by omega))
        exact tailstep m (Nat.le_refl _) hall hno hin (final listed w' hc hall hno)
    · have hni : m ≤ i := by
        rcases Nat.lt_or_ge i m with h' | h'
        · rw [hall i (by omega)] at hunf; cases hunf
        · exact h'
      exact tailstep k hnk hall hno hni hw
  · intro listed a' w' hsh hI hr
    have hall := H.all hsh hr
    rcases hI with ⟨hno, rfl, hc⟩ | ⟨k, hnk, hall', hno, hw⟩
    · have hnn : m = l.length := by
        rcases Nat.lt_or_ge m l.length with h' | h'
        · have := hall m (by omega); rw [hno m (Nat.le_refl _)] at this; cases this
        · omega
      have := final listed w' hc (fun j hj => hall j (by omega)) hno
      rw [hnn, List.drop_length] at this
      exact this
    · have hmm : l.length ≤ k := by
        rcases Nat.lt_or_ge k l.length with h' | h'
        · have := hall k (by omega); rw [hno k (Nat.le_refl _)] at this; cases this
        · exact h'
      rw [List.drop_eq_nil_of_le hmm] at hw
      exact hw
  · rcases Nat.lt_or_ge j l.length with h' | h' <;> simp [h']
  · refine (frameOf_none (fun k => ?_) _).symm
    rcases Nat.lt_or_ge k l.length with h' | h' <;> simp [h']
end
end Go.Proofs.YthnojgdckkdcgaaDoor

namespace Go.Proofs.YthnojgdckkdcgaaDoor
open Go.RowKit Go.Sort Go.Shelf
/-- what each entry of the map says -/
def DepOk (t : Qt) (es : Array MapEntry) : Prop := ∀ e, e ∈ es.toList → ∃ s : Nat, s < 64 ∧ e.key = .int .u64 (s : Int) ∧ e.val = .int .i64 (t.depth (bitsL s))
def DepMap (w : World) (mp : Nat) (t : Qt) : Prop := ∃ es clock, w.heap[mp]? = some (.map es clock) ∧ DepOk t es
theorem DepMap.lt {w : World} {mp : Nat} {t : Qt} (h : DepMap w mp t) : mp < w.heap.size := by
  obtain ⟨es, clock, h1, _⟩ := h
  exact (Array.getElem?_eq_some_iff.1 h1).1
theorem DepMap.mono {w w' : World} {mp : Nat} {t : Qt} (h : DepMap w mp t) (hb : Below w.heap.size w w') : DepMap w' mp t := by
  obtain ⟨es, clock, h1, h2⟩ := h
  exact ⟨es, clock, (hb.block mp (Array.getElem?_eq_some_iff.1 h1).1).trans h1, h2⟩
theorem DepMap.empty {w : World} {mp : Nat} {t : Qt} (h : w.heap[mp]? = some (.map #[] 0)) : DepMap w mp t := ⟨_, _, h, fun e he => by simp at he⟩
theorem findNow_dep {t : Qt} {s : Nat} : ∀ (es : List MapEntry) (i : Nat), (∀ e, e ∈ es → ∃ s : Nat, s < 64 ∧ e.key = .int .u64 (s : Int) ∧ e.val = .int .i64 (t.depth (bitsL s))) →
    Instr.findNow (.int .u64) (.int .u64 (s : Int)) es i = some none ∨ ∃ j e, i ≤ j ∧ es[j - i]? = some e ∧ e.key = .int .u64 (s : Int) ∧ Instr.findNow (.int .u64) (.int .u64 (s : Int)) es i = some (some (j, .int .i64 (t.depth (bitsL s))))
  | [], i, _ => .inl rfl
  | e :: es, i, h => by
    obtain ⟨s', h1, h2, h3⟩ := h e (by simp)
    by_cases hs : s = s'
    · subst hs
      refine .inr ⟨i, e, Nat.le_refl _, by simp, h2, ?_⟩
      simp [Instr.findNow, Instr.sameNow, h2, h3]
    · have hne : ((s : Int) == (s' : Int)) = false := by simp; omega
      rcases findNow_dep es (i + 1) (fun e he => h e (by simp [he])) with hf | ⟨j, e', hj, he, hk, hf⟩
      · left
        unfold Instr.findNow
        rw [h2]
        simp only [Instr.sameNow, if_true, hne]
        exact hf
      · right
        refine ⟨j, e', by omega, ?_, hk, ?_⟩
        · rw [show j - i = (j - (i + 1)) + 1 by omega, List.getElem?_cons_succ]
          exact he
        · unfold Instr.findNow
          rw [h2]
          simp only [Instr.sameNow, if_true, hne]
          exact hf
theorem getM {w : World} {r : Nat} {es : Array MapEntry} {clock : Nat} (h : w.heap[r]? = some (.map es clock)) : (getObj r).run Tryd.prog w = .ok (.map es clock) w := by simp [getObj, Sem.run, h]
theorem setM {w : World} {r : Nat} {es : Array MapEntry} {clock : Nat} (o : Obj) (h : w.heap[r]? = some (.map es clock)) : (setObj r o).run Tryd.prog w = .ok () { w with heap := w.heap.setIfInBounds r o } := by simp [setObj, Sem.run, h]
theorem checkKey_u64 (b : Bool) (s : Int) (w : World) : (Instr.checkKey b 10000 79 (.int .u64 s)).run Tryd.prog w = .ok () w := by
  rw [show (10000 : Nat) = 9999 + 1 from rfl]
  unfold Instr.checkKey
  simp [run_underlying Tryd.underlying79, Result.andThen]
theorem findKey_dep {r : Option (Nat × Value)} {s : Nat} {es : List MapEntry} (h : Instr.findNow (.int .u64) (.int .u64 (s : Int)) es 0 = some r) (w : World) : (Instr.findKey 79 (.int .u64 (s : Int)) es).run Tryd.prog w = .ok r w := by
  unfold Instr.findKey
  simp [run_underlying Tryd.underlying79, h, Result.andThen]
/-- a look-up -/
theorem lookup_dep {t : Qt} {es : Array MapEntry} (he : DepOk t es) (s mp clock : Nat) : ∃ (v : Int) (b : Bool), (∀ w : World, w.heap[mp]? = some (.map es clock) → (Instr.lookup 80 (.map (some mp)) (.int .u64 (s : Int)) true).run Tryd.prog w = .ok (.tuple #[.int .i64 v, .bool b]) w) ∧ (b = true → v = t.depth (bitsL s)) := by
  rcases findNow_dep (s := s) es.toList 0 he with hf | ⟨j, e, _, _, _, hf⟩
  · refine ⟨0, false, fun w hw => ?_, fun h => by cases h⟩
    unfold Instr.lookup
    simp [run_underlying Tryd.underlying80, getM hw, checkKey_u64, findKey_dep hf, Tryd.zeroValue3, Result.andThen]
  · refine ⟨t.depth (bitsL s), true, fun w hw => ?_, fun _ => rfl⟩
    unfold Instr.lookup
    simp [run_underlying Tryd.underlying80, getM hw, checkKey_u64, findKey_dep hf, Result.andThen]
/-- a store -/
theorem update_dep {t : Qt} {w : World} {mp : Nat} (h : DepMap w mp t) {s : Nat} (hs : s < 64) {d : Int} (hd : d = t.depth (bitsL s)) : ∃ w', (Instr.mapUpdate 80 (.map (some mp)) (.int .u64 (s : Int)) (.int .i64 d)).run Tryd.prog w = .ok () w' ∧ w.grownBy w' (some mp) ∧ w'.heap.size = w.heap.size ∧ DepMap w' mp t := by
  obtain ⟨es, clock, hw, he⟩ := h
  have hlt := (Array.getElem?_eq_some_iff.1 hw).1
  have grown : ∀ o : Obj, w.grownBy { w with heap := w.heap.setIfInBounds mp o } (some mp) := fun o => ⟨rfl, rfl, rfl, by simp, fun k hk hne => by
    show (w.heap.setIfInBounds mp o)[k]? = _
    rw [Array.getElem?_setIfInBounds_ne (fun e => hne (by rw [e]))]⟩
  have at_ : ∀ o : Obj, ({ w with heap := w.heap.setIfInBounds mp o } : World).heap[mp]? = some o := fun o => by
    show (w.heap.setIfInBounds mp o)[mp]? = _
    rw [Array.getElem?_setIfInBounds_self_of_lt hlt]
  rcases findNow_dep (s := s) es.toList 0 he with hf | ⟨j, e, _, hj, hk, hf⟩
  · refine ⟨{ w with heap := w.heap.setIfInBounds mp (.map (es.push { key := .int .u64 s, val := .int .i64 d, born := clock }) (clock + 1)) }, ?_, grown _, by simp, ⟨_, _, at_ _, fun e he' => ?_⟩⟩
    · unfold Instr.mapUpdate
      simp [run_underlying Tryd.underlying80, getM hw, checkKey_u64, findKey_dep hf, setM _ hw, Result.andThen]
    · rw [Array.toList_push, List.mem_append] at he'
      rcases he' with he' | he'
      · exact he e he'
      · rw [List.mem_singleton.1 he']
        exact ⟨s, hs, rfl, by rw [hd]⟩
  · have hj' : es[j]? = some e := by simpa using hj
    refine ⟨{ w with heap := w.heap.setIfInBounds mp (.map (es.modify j fun e => { e with key := .int .u64 s, val := .int .i64 d }) clock) }, ?_, grown _, by simp, ⟨_, _, at_ _, fun e' he' => ?_⟩⟩
    · unfold Instr.mapUpdate
      simp [run_underlying Tryd.underlying80, getM hw, checkKey_u64, findKey_dep hf, setM _ hw, Result.andThen, Instr.keyThatStays, Instr.sameBits, hj', hk]
    · obtain ⟨i, hi, hie⟩ := List.getElem_of_mem he'
      have : (es.modify j fun e => { e with key := .int .u64 s, val := .int .i64 d })[i]? = some e' := by
        rw [← Array.getElem?_toList]
        exact List.getElem?_eq_some_iff.2 ⟨hi, hie⟩
      rw [Array.getElem?_modify] at this
      split at this
      · obtain ⟨e0, _, e1⟩ := Option.map_eq_some_iff.1 this
        rw [← e1]
        exact ⟨s, hs, rfl, by rw [hd]⟩
      · exact he e' (Array.mem_toList_iff.2 (Array.mem_of_getElem? this))
end Go.Proofs.YthnojgdckkdcgaaDoor

namespace Go.Proofs.YthnojgdckkdcgaaDoor
open Go.RowKit Go.Sort Go.Shelf
theorem CourtAt.kept {w w' : World} {C : Nat} {Aw Af : Option Addr} {cw cf : Nat} {t : Qt} {s mp : Nat} (h : CourtAt w C Aw Af cw cf t s mp) (hg : w.grownBy w' (some mp)) (hne : C ≠ mp) : CourtAt w' C Aw Af cw cf t s mp := by
  have hb := hg.block C h.box.lt (fun e => hne (Option.some.inj e))
  exact ⟨⟨Nat.lt_of_lt_of_le h.box.lt hg.size, fun i v hi => (cell_of_heap hb i).trans (h.box.cell i v hi)⟩, fun o => (frozen_of_heap hb o).trans (h.frz o)⟩
/-- a court at work, its map right -/
structure DEnv (W0 w : World) (C mp s0 : Nat) (Aw Af : Option Addr) (cw cf : Nat) (t : Qt) : Prop where
  below : Below W0.heap.size W0 w
  court : CourtAt w C Aw Af cw cf t s0 mp
  dep : DepMap w mp t
  town : QAt W0 Aw Af t
  tab : TabAt W0
  base : W0.heap.size ≤ mp
  ne : C ≠ mp
theorem DEnv.step {W0 w w' : World} {C mp s0 : Nat} {Aw Af : Option Addr} {cw cf : Nat} {t : Qt} (h : DEnv W0 w C mp s0 Aw Af cw cf t) (hg : w.grownBy w' (some mp)) (hd : DepMap w' mp t) : DEnv W0 w' C mp s0 Aw Af cw cf t :=
  ⟨h.below.grown hg h.below.size (fun k e => by injection e with e; rw [← e]; exact h.base), h.court.kept hg h.ne, hd, h.town, h.tab, h.base, h.ne⟩
theorem DEnv.mono {W0 w w' : World} {C mp s0 : Nat} {Aw Af : Option Addr} {cw cf : Nat} {t : Qt} (h : DEnv W0 w C mp s0 Aw Af cw cf t) (hb : Below w.heap.size w w') : DEnv W0 w' C mp s0 Aw Af cw cf t :=
  h.step (grown_below hb) (h.dep.mono hb)
theorem behM_le (t : Qt) (x : Tp) (s f : Nat) : behM t x s f ≤ s := by
  have e : behM t x s f &&& s = behM t x s f := by
    apply Nat.eq_of_testBit_eq
    intro j
    rw [Nat.testBit_and]
    cases h : (behM t x s f).testBit j with
    | false => rfl
    | true =>
      unfold behM at h
      rw [maskL_bit, List.any_eq_true] at h
      obtain ⟨y, hy, he⟩ := h
      obtain ⟨i, _, hb, rfl⟩ := bitsL_mem.1 (List.mem_filter.1 hy).1
      simp at he
      rw [← he, hb]
      rfl
  rw [← e]
  exact Nat.and_le_right
theorem behM_sub {t : Qt} {x : Tp} {s f : Nat} (h : ∀ i : Nat, s.testBit i = true → i < t.nw) (i : Nat) (hi : (behM t x s f).testBit i = true) : i < t.nw := by
  unfold behM at hi
  rw [maskL_bit, List.any_eq_true] at hi
  obtain ⟨y, hy, he⟩ := hi
  obtain ⟨j, _, hb, rfl⟩ := bitsL_mem.1 (List.mem_filter.1 hy).1
  simp at he
  rw [← he]
  exact h j hb
/-- the contract of enough -/
def EnoughAt (W0 : World) (C mp s0 : Nat) (Aw Af : Option Addr) (cw cf : Nat) (t : Qt) (s : Nat) : Prop :=
  ∀ w, DEnv W0 w C mp s0 Aw Af cw cf t → Calls Tryd.prog 28 #[.pointer (some ⟨C, 0, none⟩), .int .u64 s] w fun e w' => e = .returned (.int .i64 (t.depth (bitsL s))) ∧ w.grownBy w' (some mp) ∧ DepMap w' mp t
theorem grownR (w : World) (r : Option Nat) : w.grownBy w r := ⟨rfl, rfl, rfl, Nat.le_refl _, fun _ _ _ => rfl⟩
set_option maxHeartbeats 4000000 in
set_option maxRecDepth 100000 in
theorem after_any {W0 : World} {C mp s0 : Nat} {Aw Af : Option Addr} {cw cf : Nat} {t : Qt} {s : Nat} (ok : t.Ok) (h64 : s < 64) (hsub : ∀ i : Nat, s.testBit i = true → i < t.nw) (IH : ∀ s', s' < s → (∀ i : Nat, s'.testBit i = true → i < t.nw) → EnoughAt W0 C mp s0 Aw Af cw cf t s')
    (p q : Nat) (hp : (p : Int) < t.wells) (hq : (q : Int) < t.wells) (w : World) (hE : DEnv W0 w C mp s0 Aw Af cw cf t) :
    Calls Tryd.prog 36 #[.pointer (some ⟨C, 0, none⟩), .int .u64 s, .agg #[.int .i64 p, .int .i64 q]] w fun e w' => e = .returned (.int .i64 (t.afterP (p, q) (bitsL s))) ∧ w.grownBy w' (some mp) ∧ DepMap w' mp t := by
  have hb0 := bAlloc (Below.refl w.heap.size w) (.cells #[.int .i64 p, .int .i64 q] 51)
  have HE := Lib.hid hE
  have HB := Lib.hid hb0
  have HE0 := Lib.hid (hE.mono hb0)
  have HIH := Lib.hid IH
  have HSUB := Lib.hid hsub
  have HBC := Lib.hid (behind_any Aw Af cw cf C mp s0 s t p q _ HE0.out.court ok h64 hsub hp hq (HE0.out.town.mono HE0.out.below) (HE0.out.tab.mono HE0.out.below))
  clear hE hb0 IH hsub ok hp hq
  go_enter Tryd.func36, Tryd.ntmps36
  go_wp2_with fail
  refine HBC.out.mono ?_
  rintro e w1 ⟨rfl, hb1⟩
  have HB1 := Lib.hid (bTrans HB.out hb1)
  have HE1 := Lib.hid (HE0.out.mono hb1)
  obtain ⟨ba, hba⟩ : ∃ ba, behA t (p, q) s = ba := ⟨_, rfl⟩
  have HBA := Lib.hid hba
  rw [show behV t (p, q) s = .agg ba by rw [← hba]; rfl]
  clear hba hb1
  go_wp2_with fail
  go_loopw [7, 14] (fun m i' wr => ∃ k : Nat, i' = .int .i64 k ∧ k ≤ 10 ∧ m = .int .i64 (maxTo (fun f => t.depth (t.shown (p, q) (bitsL s) (f : Int))) k) ∧ (∀ f, f < k → (t.shown (p, q) (bitsL s) (f : Int) == bitsL s) = false) ∧ w1.grownBy wr (some mp) ∧ DepMap wr mp t) (fun _ i _ => 10 - (intOf i).toNat)
  case atStart => exact ⟨0, rfl, by omega, rfl, fun f hf => absurd hf (Nat.not_lt_zero _), grownR _ _, HE1.out.dep⟩
  case round =>
    obtain ⟨k, rfl, hk, rfl, hno, hgr, hdp⟩ := hrel
    have HNO := Lib.hid hno
    have HGR := Lib.hid hgr
    have HDP := Lib.hid hdp
    obtain ⟨m, hm⟩ : ∃ m, maxTo (fun f => t.depth (t.shown (p, q) (bitsL s) (f : Int))) k = m := ⟨_, rfl⟩
    rw [hm]
    have HM := Lib.hid hm
    clear hm hno hgr hdp
    by_cases hlt : k < 10
    · have hget := behA_get t (p, q) s hlt
      rw [HBA.out] at hget
      obtain ⟨u, hu⟩ : ∃ u, behM t (p, q) s k = u := ⟨_, rfl⟩
      rw [hu] at hget
      have hix := index10 ba k u hget hlt wr
      have k1 : (k : Int) < 10 := by omega
      have k0 : (0 : Int) ≤ (k : Int) := by omega
      by_cases hus : u = s
      · have g0 : ((u : Int) == (s : Int)) = true := by simp [hus]
        have HZ := Lib.hid (show t.afterP (p, q) (bitsL s) = 1024 by
          unfold Qt.afterP
          rw [if_pos (anyB_true.2 ⟨k, hlt, by
            have := (shown_same t (p, q) h64 (k : Int)).1 (hu.trans hus)
            rw [this]; simp⟩)])
        clear hu hget hus
        go_wp2_with fail
        go_ret
        exact ⟨by rw [HZ.out]; rfl, grown_trans (grown_below HB1.out) HGR.out, HDP.out⟩
      · have g0 : ((u : Int) == (s : Int)) = false := by simp; omega
        have hus2 : u < s := by have := behM_le t (p, q) s k; omega
        obtain ⟨d, hd⟩ : ∃ d, t.depth (bitsL u) = d := ⟨_, rfl⟩
        have HCC := Lib.hid (hd ▸ HIH.out u hus2 (hu ▸ behM_sub HSUB.out) wr (HE1.out.step HGR.out HDP.out) : Calls Tryd.prog 28 #[.pointer (some ⟨C, 0, none⟩), .int .u64 u] wr fun e w' => e = .returned (.int .i64 d) ∧ wr.grownBy w' (some mp) ∧ DepMap w' mp t)
        have HN2 := Lib.hid (show ∀ f, f < k + 1 → (t.shown (p, q) (bitsL s) (f : Int) == bitsL s) = false from fun f hf => by
          rcases Nat.lt_or_ge f k with h1 | h1
          · exact HNO.out f h1
          · obtain rfl : f = k := by omega
            cases h2 : t.shown (p, q) (bitsL s) (f : Int) == bitsL s with
            | false => rfl
            | true => exact absurd (hu.symm.trans ((shown_same t (p, q) h64 (f : Int)).2 (eq_of_beq h2))) hus)
        obtain ⟨m2, hm2⟩ : ∃ m2, (if m < d then d else m) = m2 := ⟨_, rfl⟩
        have HS := Lib.hid (show maxTo (fun f => t.depth (t.shown (p, q) (bitsL s) (f : Int))) (k + 1) = m2 by
          show max (maxTo _ k) _ = _
          rw [HM.out]
          show max m (t.depth (t.shown (p, q) (bitsL s) (k : Int))) = m2
          rw [← bits_shown, show maskL (t.shown (p, q) (bitsL s) (k : Int)) = u from hu, hd, ← hm2]
          split <;> omega)
        clear hu hget hus hus2 hd
        go_wp2_with fail
        refine HCC.out.mono ?_
        rintro e w4 ⟨rfl, hg4, hd4⟩
        have HG4 := Lib.hid (grown_trans HGR.out hg4)
        have HD4 := Lib.hid hd4
        clear hg4 hd4
        go_wp2_with fail
        go_roundw
        case rel =>
          first
          | exact ⟨k + 1, by go_num, by omega, by rw [HS.out], HN2.out, HG4.out, HD4.out⟩
          | ((repeat apply Exists.intro)
             refine ⟨⟨k + 1, ?_, by omega, by rw [HS.out], HN2.out, HG4.out, HD4.out⟩, rfl⟩
             go_num)
        case measure => simp [intOf]; omega
    · obtain rfl : k = 10 := by omega
      have HZ := Lib.hid (show t.afterP (p, q) (bitsL s) = m by
        unfold Qt.afterP
        rw [anyB_false.2 HNO.out]
        exact HM.out)
      go_wp2_with fail
      go_ret
      exact ⟨by rw [HZ.out]; rfl, grown_trans (grown_below HB1.out) HGR.out, HDP.out⟩
end Go.Proofs.YthnojgdckkdcgaaDoor

