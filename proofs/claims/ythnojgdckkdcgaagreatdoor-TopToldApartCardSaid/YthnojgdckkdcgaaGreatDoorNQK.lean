/- Parts joined: what all claims of this seat need. -/
import Derived.Test.YthnojgdckkdcgaaGreatDoorNQH
import Derived.Test.YthnojgdckkdcgaaGreatDoorNQJ
import Derived.Test.YthnojgdckkdcgaaGreatDoorNQA
set_option linter.unusedSimpArgs false
set_option linter.unusedVariables false
namespace Go.Proofs.YthnojgdckkdcgaaGreatDoor
open Go.RowKit Go.Sort
/-- 'append([]T{}, xs...)' at a step of a region: the copy is the call's own, an empty one too -/
theorem stir_copy3 {P : Program} {o : Oper} {a : Act} (w : World) (s x : Operand) (t : TypeId) (hop : o.op = Op.call { callee := Callee.builtin Builtin.append, args := #[s, x], argTypes := #[t, t] })
    (e : TypeId) (z : Value) (size bytes : Nat) (hinfo : (P.info? e).map (fun i => (i.zero, i.size, i.bytes)) = some (some z, size, bytes)) (ht : P.underlying t = some (.slice e)) (hzs : z.cells.size = size) (hsz : 0 < size)
    (ad : Nat) (A : Option Addr) (m c : Nat) (L : List Value) (hs : a.eval s = .slice (some ⟨ad, 0, none⟩) 0 0) (hx : a.eval x = .slice A m c) (hl : L.length = m * size) (hr : RowAt w A L) (h63 : m ≤ maxLen) (hby : m * bytes ≤ 140737488355328) (N : Nat) (hN : N ≤ w.heap.size) (ho : w.ownsRow N e size (.slice (some ⟨ad, 0, none⟩) 0 0) 0 []) :
    Oper.stirAt P o a w Newer (fun w' v => ShapeOf m v ∧ w'.ownsRow N e size v m L) := by
  obtain ⟨i0, hi, iz0, iz1, iz2⟩ := info_parts hinfo
  have hbytes : (0 + m) * bytes ≤ 140737488355328 := by rw [Nat.zero_add]; exact hby
  rcases Nat.eq_zero_or_pos m with h0 | h0
  · subst h0
    obtain rfl : L = [] := List.eq_nil_of_length_eq_zero (by simpa using hl)
    have hrun : (Builtin.append_ #[t, t] o.type #[.slice (some ⟨ad, 0, none⟩) 0 0, .slice A 0 c]).run P w = .ok (.slice (some ⟨ad, 0, none⟩) 0 0) w := by
      cases A with
      | none => simp [Builtin.append_, run_underlying ht, sizeOf, typeInfo, hi, Builtin.lenOf, Builtin.firstCells, storeCells]
      | some a =>
        have hfc := run_firstCells_some (P := P) w i0.size 0 a 0 c [] (by simp) (fun j u h => by simp at h)
        simp [Builtin.append_, run_underlying ht, sizeOf, typeInfo, hi, Builtin.lenOf, hfc, storeCells]
    unfold Oper.stirAt
    simp only [execOp, hop, resolve, invoke, builtin, List.map_toArray, List.map_cons, List.map_nil, hs, hx, hrun, Result.andThen, Sem.run_bind, Sem.run_pure, Oper.stirUpon]
    exact ⟨Below.refl _ _, ⟨_, _, rfl⟩, ho⟩
  · rcases hr with hr | ⟨b, o', rfl, hlt, hc⟩
    · rw [hr] at hl
      have := Nat.mul_pos h0 hsz
      simp only [List.length_nil] at hl
      omega
    · obtain ⟨v', w', hrun, hown, hg⟩ := run_append_arg_grows (P := P) w t o.type e i0 z size bytes ht hi iz0 iz1 iz2 hzs hsz ⟨ad, 0, none⟩ 0 0 [] (by simp) (fun j u h => by simp at h) ⟨b, o', none⟩ m c L hl (fun j u h => by
        rw [show (⟨b, o', none⟩ : Addr).add j = ⟨b, o' + j, none⟩ from by unfold Addr.add; split <;> simp_all]; exact hc j u h) (by omega) (by omega) hbytes
      simp only [List.nil_append, Nat.zero_add] at hown
      obtain ⟨g, cap, rfl⟩ := owns_form hown h0
      unfold Oper.stirAt
      simp only [execOp, hop, resolve, invoke, builtin, List.map_toArray, List.map_cons, List.map_nil, hs, hx, hrun, Result.andThen, Sem.run_bind, Sem.run_pure, Oper.stirUpon]
      exact ⟨below_grown hg, ⟨_, _, rfl⟩, owns_lower hown hN⟩
def ownsV (N : Nat) (e : TypeId) (size m : Nat) (L : List Value) (w : World) (v : Value) : Prop := w.ownsRow N e size v m L
theorem ownsG {N : Nat} {e : TypeId} {size m : Nat} {L : List Value} : (Stir.held (ShapeOf m) (ownsV N e size m L)).good := ⟨⟨_, 0, 0, rfl⟩, fun _ _ _ hb h => owns_below h hb⟩
/-- a town's value in the midst of Copy -/
def twnS (m : Int) (n : Nat) (v : Value) : Prop := ∃ g c, v = .agg #[.int .i64 m, .slice none 0 0, .slice (some ⟨g, 0, none⟩) n c]
def twnR (N : Nat) (m : Int) (n : Nat) (L : List Value) (w : World) (v : Value) : Prop := ∀ g c, v = .agg #[.int .i64 m, .slice none 0 0, .slice (some ⟨g, 0, none⟩) n c] → w.ownsRow N 27 5 (.slice (some ⟨g, 0, none⟩) n c) n L
theorem twnG {N : Nat} {m : Int} {n : Nat} {L : List Value} : (Stir.held (twnS m n) (twnR N m n L)).good := ⟨⟨_, 0, 0, rfl⟩, fun _ _ _ hb h g c e => owns_below (h g c e) hb⟩
/-- a new box -/
def boxS (v : Value) : Prop := ∃ b, v = .pointer (some ⟨b, 0, none⟩)
def boxR (N : Nat) (t : TypeId) (cs : Array Value) (w : World) (v : Value) : Prop := ∀ b, v = .pointer (some ⟨b, 0, none⟩) → N ≤ b ∧ TBox w b t cs
theorem boxG {N : Nat} {t : TypeId} {cs : Array Value} : (Stir.held boxS (boxR N t cs)).good := ⟨⟨_, 0, rfl⟩, fun _ _ _ hb h b e => ⟨(h b e).1, (h b e).2.mono hb⟩⟩
/-- a copied world -/
def wdS (n : Nat) (v : Value) : Prop := ∃ A c, v = .agg #[.slice A n c]
def wdR (x : Wd) (w : World) (v : Value) : Prop := ∀ u, v = .agg #[u] → WdK w u x
theorem wdG {x : Wd} : (Stir.held (wdS x.n) (wdR x)).good := ⟨⟨_, none, 0, rfl⟩, fun _ _ _ hb h u e => (h u e).mono hb⟩
def wdIn (x : Wd) (w : World) (v : Value) : Prop := ∀ b, v = .slice (some ⟨b, 0, none⟩) 1 1 → ∃ u, w.cell? ⟨b, 0, none⟩ = some u ∧ WdK w u x
theorem wdInG {x : Wd} : (Stir.held one1 (wdIn x)).good := ⟨⟨_, 0, rfl⟩, fun _ _ _ hb h b e => by
  obtain ⟨u, h1, h2⟩ := h b e
  exact ⟨u, (hb.cell (World.block_lt_of_cell? _ _ h1)).trans h1, h2.mono hb⟩⟩
theorem WdK.one {w : World} {u : Value} {x : Wd} (h : WdK w u x) : u.oneCell' = true := by
  obtain ⟨A, c, vs, rfl, _⟩ := h
  rfl
theorem infoFact : (Tryz.prog.info? 27).map (fun i => (i.zero, i.size, i.bytes)) = some (some (.agg #[.int .i64 0, .int .i64 0, .int .i64 0, .int .i64 0, .int .i64 0]), 5, 40) := by kernel_rfl
theorem infoWorld : (Tryz.prog.info? 101).map (fun i => (i.zero, i.size, i.bytes)) = some (some (.agg #[.slice none 0 0]), 1, 24) := by kernel_rfl
theorem owns_setT {w : World} {base : Nat} {e t : TypeId} {size n : Nat} {v : Value} {xs : List Value} (h : w.ownsRow base e size v n xs) {b : Nat} {cs : Array Value} (hb : TBox w b t cs) (ht : t ≠ e) (o : Nat) (u : Value) : (w.setCell ⟨b, o, none⟩ u).ownsRow base e size v n xs :=
  ⟨h.1, h.2.imp id fun ⟨g, cap, cur, h1, h2, h3, h4⟩ => ⟨g, cap, cur, h1, h2, (Below.heap_setCell w ⟨b, o, none⟩ u g (fun e' => by
    have e'' : g = b := e'
    subst e''
    rw [show w.heap[g]? = some (Obj.cells cs t (0, 0)) from hb] at h3
    injection h3 with h3
    injection h3 with _ h3 _
    exact ht h3)).trans h3, h4⟩⟩
def CopyOut (w : World) (base : Nat) (t : Qt) (e : Ending) : Prop := ∃ vW vF, e = .returned (.agg #[.int .i64 t.wells, vW, vF]) ∧ CopyAt w base vW vF t
set_option maxHeartbeats 4000000 in
set_option maxRecDepth 100000 in
theorem copy5_any (Aw Af : Option Addr) (cw cf : Nat) (t : Qt) (w : World) (hf : t.Fits) (hT : QAt w Aw Af t) :
    Calls Tryz.prog 51 #[.agg #[.int .i64 t.wells, .slice Aw t.nw cw, .slice Af t.nf cf]] w fun e w' => CopyOut w' w.heap.size t e ∧ Below w.heap.size w w' := by
  have hb2 := bAlloc (bAlloc (Below.refl w.heap.size w) (.cells #[.int .i64 t.wells, .slice Aw t.nw cw, .slice Af t.nf cf] 25)) (.cells #[.int .i64 0, .slice none 0 0, .slice none 0 0] 25)
  have HT := Lib.hid (hT.mono hb2)
  have HB := Lib.hid hb2
  have HF := Lib.hid hf
  have HFR := Lib.hid (factsAt_iff (hT.mono hb2).facts)
  have hn63 : t.nw ≤ 9223372036854775807 := by have := hf.1; omega
  have HTR := Lib.hid (TBox.new (w.alloc (.cells #[.int .i64 t.wells, .slice Aw t.nw cw, .slice Af t.nf cf] 25)) #[.int .i64 0, .slice none 0 0, .slice none 0 0] 25)
  clear hT hb2 hf
  go_enter Tryz.func51, Tryz.ntmps51
  go_wp2_with fail
  refine wp_region_stir 8 [.const (.pointer (some ⟨w.heap.size, 0, none⟩)), .const (.int .i64 t.wells), .held emptyV (ownsV (w.heap.size + 2) 27 5 0 []), .const (.pointer (some ⟨w.heap.size, 2, none⟩)), .const (.slice Af t.nf cf), .held (ShapeOf t.nf) (ownsV (w.heap.size + 2) 27 5 t.nf (factL t.fact t.nf)), .held (twnS t.wells t.nf) (twnR (w.heap.size + 2) t.wells t.nf (factL t.fact t.nf)), .held boxS (boxR (w.heap.size + 2) 25 #[.int .i64 0, .slice none 0 0, .slice none 0 0])]
    (by kernel_rfl) (by kernel_rfl) rfl ⟨trivial, trivial, ⟨⟨_, 0, rfl⟩, fun _ _ _ hb h => owns_below h hb⟩, trivial, trivial, ownsG, twnG, boxG, trivial⟩ (crossAll_no _ _ _ _ trivial) ?_
  iterate 2 refine wpStir_const (by go_simp) ?_
  refine wpStir_held rfl (fun w' hb hd => ?_) (fun v hv => ?_)
  · clear hd
    have hz := hb.size
    simp only [World.size_alloc] at hz
    have hl := World.ownsRow_lit (base := w.heap.size + 2) (e := 27) (size := 5) w' #[] 0 (by omega) (by decide) rfl
    go_simp
    exact ⟨bAlloc (Below.refl _ _) _, ⟨_, rfl⟩, hl⟩
  obtain ⟨b1, rfl⟩ := hv
  iterate 2 refine wpStir_const (by go_simp) ?_
  simp only [Act.put, List.setIfInBounds_toArray, List.set_cons_succ, List.set_cons_zero]
  refine wpStir_held rfl (fun w' hb hd => ?_) (fun v hv => ?_)
  · have h1 : ownsV (w.heap.size + 2) 27 5 0 [] w' (.slice (some ⟨b1, 0, none⟩) 0 0) := hd.1 (by kernel_rfl)
    clear hd
    have hz := hb.size
    simp only [World.size_alloc] at hz
    exact stir_copy3 w' (Operand.tmp 7) (Operand.tmp 9) 23 rfl 27 (.agg #[.int .i64 0, .int .i64 0, .int .i64 0, .int .i64 0, .int .i64 0]) 5 40 infoFact Tryz.underlying23 rfl (by decide) b1 Af t.nf cf (factL t.fact t.nf) rfl rfl (factL_len _ _) (HFR.out.mono hb) (by unfold maxLen; have := HF.out.2.1; omega) (by have := HF.out.2.1; omega) _ (by omega) h1
  obtain ⟨b2, c2, rfl⟩ := hv
  refine wpStir_held rfl (fun w' hb hd => ?_) (fun v hv => ?_)
  · have h1 : ownsV (w.heap.size + 2) 27 5 t.nf (factL t.fact t.nf) w' (.slice (some ⟨b2, 0, none⟩) t.nf c2) := hd.1 (by kernel_rfl)
    clear hd
    go_simp
    refine ⟨⟨_, _, rfl⟩, fun g c e => ?_⟩
    simp only [Value.agg.injEq, Array.mk.injEq, List.cons.injEq, Value.slice.injEq, Option.some.injEq, Addr.mk.injEq, and_true, true_and] at e
    obtain ⟨rfl, rfl⟩ := e
    exact h1
  obtain ⟨b3, c3, rfl⟩ := hv
  refine wpStir_held rfl (fun w' hb hd => ?_) (fun v hv => ?_)
  · clear hd
    have hz := hb.size
    simp only [World.size_alloc] at hz
    go_simp
    refine ⟨bAlloc (Below.refl _ _) _, ⟨_, rfl⟩, fun b e => ?_⟩
    obtain rfl : w'.heap.size = b := by simpa using e
    exact ⟨by omega, TBox.new _ _ _⟩
  obtain ⟨b7, rfl⟩ := hv
  simp only [Act.put, List.setIfInBounds_toArray, List.set_cons_succ, List.set_cons_zero]
  refine wpStir_end (fun w5 hb5 hd => ?_)
  obtain ⟨hb7, htb⟩ := hd.1 b7 rfl
  have hfx := hd.2.1 b3 c3 rfl
  clear hd
  have HFX := Lib.hid hfx
  have HTB := Lib.hid htb
  have HB5 := Lib.hid hb5
  have x0 : w5.cell? ⟨b7, 0, none⟩ = some (.int .i64 0) := htb.cell 0
  have x1 : w5.cell? ⟨b7, 1, none⟩ = some (.slice none 0 0) := htb.cell 1
  have x2 : w5.cell? ⟨b7, 2, none⟩ = some (.slice none 0 0) := htb.cell 2
  have y0 := htb.frozen 0
  have y1 := htb.frozen 1
  have y2 := htb.frozen 2
  have hz5 := hb5.size
  simp only [World.size_alloc] at hz5
  clear hfx htb hb5
  simp only [List.drop_succ_cons, List.drop_zero]
  go_wp2_with fail
  have HT6 := Lib.hid (((HTB.out.set 0 (.int .i64 t.wells)).set 1 (.slice none 0 0)).set 2 (.slice (some ⟨b3, 0, none⟩) t.nf c3))
  have HF6 := Lib.hid (owns_setT (owns_setT (owns_setT HFX.out HTB.out (by decide) 0 (.int .i64 t.wells)) (HTB.out.set 0 (.int .i64 t.wells)) (by decide) 1 (.slice none 0 0)) ((HTB.out.set 0 (.int .i64 t.wells)).set 1 (.slice none 0 0)) (by decide) 2 (.slice (some ⟨b3, 0, none⟩) t.nf c3))
  have HB6 := Lib.hid (show Below (w.heap.size + 2) ((w.alloc (.cells #[.int .i64 t.wells, .slice Aw t.nw cw, .slice Af t.nf cf] 25)).alloc (.cells #[.int .i64 0, .slice none 0 0, .slice none 0 0] 25)) _ from Below.setCell (p := ⟨b7, 2, none⟩) (Below.setCell (p := ⟨b7, 1, none⟩) (Below.setCell (p := ⟨b7, 0, none⟩) (by have := HB5.out; simpa using this) (show w.heap.size + 2 ≤ b7 from hb7) (.int .i64 t.wells)) (show w.heap.size + 2 ≤ b7 from hb7) (.slice none 0 0)) (show w.heap.size + 2 ≤ b7 from hb7) (.slice (some ⟨b3, 0, none⟩) t.nf c3))
  have hlt7 := HTB.out.lt
  have hlt3 : b3 < w5.heap.size := (HFX.out.lt b3 rfl).2
  clear x0 x1 x2 y0 y1 y2
  go_loopw [4] (fun s wr => ∃ (k : Nat) (V : Value) (us : List Value), k ≤ t.nw ∧ s = .int .i64 k ∧ TBox wr b7 25 #[.int .i64 t.wells, V, .slice (some ⟨b3, 0, none⟩) t.nf c3] ∧ wr.ownsRow w5.heap.size 101 1 V k us ∧ WsRows wr t.world k us ∧ w5.heap.size ≤ wr.heap.size ∧ wr.ownsRow (w.heap.size + 2) 27 5 (.slice (some ⟨b3, 0, none⟩) t.nf c3) t.nf (factL t.fact t.nf) ∧ Below (w.heap.size + 2) ((w.alloc (.cells #[.int .i64 t.wells, .slice Aw t.nw cw, .slice Af t.nf cf] 25)).alloc (.cells #[.int .i64 0, .slice none 0 0, .slice none 0 0] 25)) wr) (fun s _ => t.nw - (intOf s).toNat)
  case atStart => exact ⟨0, .slice none 0 0, [], Nat.zero_le _, rfl, HT6.out, World.ownsRow_nil _ _ _ _, ⟨rfl, fun j u h => by simp at h⟩, by simp, HF6.out, HB6.out⟩
  case round =>
    obtain ⟨k, V, us, hk, rfl, hbx, hown, hrows, hsz5, hfacts, hbel⟩ := hrel
    have HX := Lib.hid hbx
    have HO := Lib.hid hown
    have HR := Lib.hid hrows
    have HFA := Lib.hid hfacts
    have HL := Lib.hid hbel
    have hbw : Below w.heap.size w wr := bTrans HB.out (by simpa using hbel)
    have HW := Lib.hid hbw
    have HTW := Lib.hid (HT.out.worlds.mono (show Below ((w.alloc (.cells #[.int .i64 t.wells, .slice Aw t.nw cw, .slice Af t.nf cf] 25)).alloc (.cells #[.int .i64 0, .slice none 0 0, .slice none 0 0] 25)).heap.size _ wr by simpa using hbel))
    have p0 := (hbel.cell (p := ⟨w.heap.size, 0, none⟩) (by show w.heap.size < w.heap.size + 2; omega)).trans (show _ = some (.int .i64 t.wells) by simp [go_sem])
    have p1 := (hbel.cell (p := ⟨w.heap.size, 1, none⟩) (by show w.heap.size < w.heap.size + 2; omega)).trans (show _ = some (.slice Aw t.nw cw) by simp [go_sem])
    have q1 : wr.cell? ⟨b7, 1, none⟩ = some V := hbx.cell 1
    have hz : b7 < wr.heap.size := hbx.lt
    have hy : w.heap.size < wr.heap.size := by omega
    clear hbx hown hrows hfacts hbel hbw
    by_cases hlt : k < t.nw
    · rcases HTW.out with h0 | ⟨b, o, hA, hb, hc⟩
      · omega
      obtain ⟨A', c', c0, hrow, hlen⟩ := hc k hlt
      subst hA
      obtain ⟨x, hx⟩ : ∃ x, t.world k = x := ⟨_, rfl⟩
      rw [hx] at c0 hrow hlen
      have HXE := Lib.hid hx
      have HXF := Lib.hid (show x.Fits by have := HF.out.2.2 k hlt; rw [hx] at this; exact this)
      have HROW := Lib.hid hrow
      have k1 : (k : Int) < (t.nw : Int) := by omega
      have k0 : (0 : Int) ≤ (k : Int) := by omega
      have HN := Lib.hid (show (k + 1) * 24 ≤ 140737488351232 by have := HF.out.1; omega)
      clear hc hrow hx
      go_wp2_with fail
      refine wp_region_pin 9 [.const (.pointer (some ⟨b7, 1, none⟩)), .const V, .const (.pointer (some ⟨w.heap.size, 1, none⟩)), .const (.slice (some ⟨b, o, none⟩) t.nw cw), .const (.int .i64 k), .const (.pointer (some ⟨b, o + k, none⟩)), .const (.agg #[.slice A' x.n c']), .held (wdS x.n) (wdR x), .held one1 (wdIn x)]
        [.pointer (some ⟨b7, 1, none⟩)] (by kernel_rfl) (by kernel_rfl) rfl ⟨trivial, trivial, trivial, trivial, trivial, trivial, trivial, wdG, wdInG, trivial⟩ (crossAll_no _ _ _ _ trivial) rfl rfl (fun j u hj => ?_) ?_
      · match j, hj with
        | 0, hj =>
          obtain rfl : Value.pointer (some ⟨b7, 1, none⟩) = u := by simpa using hj
          exact ⟨_, rfl, rfl, fun w' => by go_simp⟩
      iterate 7 refine wpStir_const (by go_simp) ?_
      simp only [Act.put, List.setIfInBounds_toArray, List.set_cons_succ, List.set_cons_zero]
      refine wpStir_held rfl (fun w' hb hd => ?_) (fun v hv => ?_)
      · clear hd
        have hcw := Lib.hid (copyWorld5_any A' c' x w' HXF.out (HROW.out.mono hb))
        go_simp
        refine hcw.out.mono ?_
        rintro e w'' ⟨⟨v, vs, rfl, ho, hr⟩, hb'⟩
        obtain ⟨A3, c3', rfl, h3⟩ := RowK.own ho
        refine ⟨_, rfl, hb', ⟨_, _, rfl⟩, fun u e => ?_⟩
        obtain rfl : Value.slice A3 x.n c3' = u := by simpa using e
        exact ⟨A3, c3', vs, rfl, h3, hr⟩
      obtain ⟨A3, c4, rfl⟩ := hv
      refine wpStir_held rfl (fun w' hb hd => ?_) (fun v hv => ?_)
      · have h1 : WdK w' (.slice A3 x.n c4) x := hd.1 (by kernel_rfl) _ rfl
        clear hd
        go_simp
        refine ⟨bAlloc (Below.refl _ _) _, ⟨_, rfl⟩, fun b' hb' => ?_⟩
        obtain rfl : w'.heap.size = b' := by simpa using hb'
        exact ⟨_, by simp [go_sem], h1.mono (bAlloc (Below.refl _ _) _)⟩
      obtain ⟨b9, rfl⟩ := hv
      simp only [Act.put, List.setIfInBounds_toArray, List.set_cons_succ, List.set_cons_zero]
      refine wpStir_end (fun w9 hb9 hd => ?_)
      obtain ⟨u, h4, h5⟩ := hd.1 b9 rfl
      clear hd
      have HX9 := Lib.hid (HX.out.mono hb9)
      have HO9 := Lib.hid (owns_below HO.out hb9)
      have HR9 := Lib.hid (HR.out.mono hb9)
      have HFA9 := Lib.hid (owns_below HFA.out hb9)
      have HK9 := Lib.hid h5
      have HL9 := Lib.hid (HL.out.trans (hb9.mono (by have := HX.out.lt; omega)))
      refine stir_own (Operand.tmp 20) (Operand.tmp 27) 22 rfl w5.heap.size 101 (.agg #[.slice none 0 0]) 1 24 infoWorld Tryz.underlying22 rfl (by decide) V k us rfl HO9.out ⟨b9, 0, none⟩ 1 1 [u] rfl rfl (news1 h4) (one1c h5.one) (by unfold maxLen; have := HN.out; omega) (by have := HN.out; omega) (by have := hb9.size; omega) (fun v' w10 hown10 hg10 => ?_)
      obtain ⟨A6, c6, rfl, _⟩ := RowK.own hown10
      have hnb : some b7 ≠ V.ownBlock := fun e => by have := HO9.out.lt _ e.symm; omega
      have hnf : (Value.slice (some ⟨b3, 0, none⟩) t.nf c3).ownBlock ≠ V.ownBlock := fun e => by
        have := HO9.out.lt b3 e.symm
        omega
      have HX10 := Lib.hid (HX9.out.grown hg10 hnb)
      have hk10 : Kept [3, 34] w9 w10 := Kept.of_own hg10 HO9.out (by decide)
      have HR10 := Lib.hid (HR9.out.kept hk10 (by simp) (by simp))
      have HK10 := Lib.hid (HK9.out.kept hk10 (by simp) (by simp))
      have HFA10 := Lib.hid (HFA9.out.kept hg10 (.inr hnf))
      have HL10 := Lib.hid (HL9.out.grown hg10 (by have := HX9.out.lt; omega) (fun q hq => by have := (HO9.out.lt q hq).1; omega))
      have HO10 := Lib.hid hown10
      have hz10 : w5.heap.size ≤ w10.heap.size := by have := hg10.size; have := hb9.size; omega
      have r1 : w10.cell? ⟨b7, 1, none⟩ = some V := HX10.out.cell 1
      have r2 := HX10.out.frozen 1
      clear hown10 hg10 h4 h5 hb9 p0 p1 q1 c0 hnb hnf hk10
      simp only [putF, Act.put, List.setIfInBounds_toArray, List.set_cons_succ, List.set_cons_zero, List.drop_succ_cons, List.drop_zero]
      go_wp2_with fail
      go_roundw
      case rel =>
        have hk11 : Kept [3, 34] w10 (w10.setCell ⟨b7, 1, none⟩ (.slice A6 (k + 1) c6)) := Kept.set HX10.out (by decide) 1 _
        have hs11 : WsRows (w10.setCell ⟨b7, 1, none⟩ (.slice A6 (k + 1) c6)) t.world (k + 1) (us ++ [u]) := (HR10.out.kept hk11 (by simp) (by simp)).snoc (by rw [HXE.out]; exact HK10.out.kept hk11 (by simp) (by simp)) (by rw [HXE.out]; have := HXF.out.1; omega)
        refine ⟨k + 1, .slice A6 (k + 1) c6, _, by omega, ?_, HX10.out.set 1 (.slice A6 (k + 1) c6), owns_set HO10.out (by omega) 1 (.slice A6 (k + 1) c6), hs11, by simpa using hz10, owns_setT HFA10.out HX10.out (by decide) 1 _, HL10.out.setCell (p := ⟨b7, 1, none⟩) (show w.heap.size + 2 ≤ b7 from hb7) (.slice A6 (k + 1) c6)⟩
        go_num
      case measure => simp [intOf]; omega
    · obtain rfl : k = t.nw := by omega
      obtain ⟨A6, c6, rfl, _⟩ := RowK.own HO.out
      have q0 : wr.cell? ⟨b7, 0, none⟩ = some (.int .i64 t.wells) := HX.out.cell 0
      have q2 : wr.cell? ⟨b7, 2, none⟩ = some (.slice (some ⟨b3, 0, none⟩) t.nf c3) := HX.out.cell 2
      have hTR : TBox wr (w.heap.size + 1) 25 #[.int .i64 0, .slice none 0 0, .slice none 0 0] := (HL.out.block (w.heap.size + 1) (by omega)).trans (by have := HTR.out; simpa [TBox] using this)
      have HTR9 := Lib.hid hTR
      have s0 : wr.cell? ⟨w.heap.size + 1, 0, none⟩ = some (.int .i64 0) := hTR.cell 0
      have s1 : wr.cell? ⟨w.heap.size + 1, 1, none⟩ = some (.slice none 0 0) := hTR.cell 1
      have s2 : wr.cell? ⟨w.heap.size + 1, 2, none⟩ = some (.slice none 0 0) := hTR.cell 2
      have t0 := hTR.frozen 0
      have t1 := hTR.frozen 1
      have t2 := hTR.frozen 2
      have hy1 : w.heap.size + 1 < wr.heap.size := hTR.lt
      clear hTR
      go_wp2_with fail
      have hT0 := HTR9.out.set 0 (.int .i64 t.wells)
      have hT1 := hT0.set 1 (.slice A6 t.nw c6)
      have hk : Kept [3, 34] wr (((wr.setCell ⟨w.heap.size + 1, 0, none⟩ (.int .i64 t.wells)).setCell ⟨w.heap.size + 1, 1, none⟩ (.slice A6 t.nw c6)).setCell ⟨w.heap.size + 1, 2, none⟩ (.slice (some ⟨b3, 0, none⟩) t.nf c3)) :=
        ((Kept.set HTR9.out (by decide) 0 _).trans (Kept.set hT0 (by decide) 1 _)).trans (Kept.set hT1 (by decide) 2 _)
      refine bodyPost_ret (v := .agg #[.int .i64 t.wells, .slice A6 t.nw c6, .slice (some ⟨b3, 0, none⟩) t.nf c3]) (by simp [results, Tryz.results51, go_sem, *]) rfl ⟨⟨_, _, rfl, ⟨us, ?_, HR.out.kept hk (by simp) (by simp)⟩, ?_⟩, ?_⟩
      · exact owns_lower (owns_setT (owns_setT (owns_setT HO.out HTR9.out (by decide) 0 _) hT0 (by decide) 1 _) hT1 (by decide) 2 _) (by omega)
      · exact owns_lower (owns_setT (owns_setT (owns_setT HFA.out HTR9.out (by decide) 0 _) hT0 (by decide) 1 _) hT1 (by decide) 2 _) (by omega)
      · exact Below.setCell (p := ⟨w.heap.size + 1, 2, none⟩) (Below.setCell (p := ⟨w.heap.size + 1, 1, none⟩) (Below.setCell (p := ⟨w.heap.size + 1, 0, none⟩) HW.out (by simp) (.int .i64 t.wells)) (by simp) (.slice A6 t.nw c6)) (by simp) (.slice (some ⟨b3, 0, none⟩) t.nf c3)
end Go.Proofs.YthnojgdckkdcgaaGreatDoor

namespace Go.Proofs.YthnojgdckkdcgaaGreatDoor
open Go.RowKit Go.Sort
def ltP (x y : Way) : Bool := decide (x.pence < y.pence)
set_option maxHeartbeats 8000000 in
set_option maxRecDepth 100000 in
theorem ways_cheaper (Ar Af : Option Addr) (cr cf : Nat) (S : Sh) (w : World) (ok : S.Ok) (hS : ShAt w Ar Af S) (hN : NoneAt w) (M : Nat) (_ : M ≤ 12) :
    Calls Tryz.prog 194 #[.agg #[.slice Ar S.nr cr, .slice Af S.nf cf, .int .i64 S.deep, .int .i64 S.haul, .int .i64 S.rest], .func (.func 136) #[] #[], .int .i64 M] w fun e w' => Wayed w w' (S.nf + 1) (S.waysOf ltP (min M S.nf)) e := by
  have hb0 := bAlloc (Below.refl w.heap.size w) (.cells #[.slice Ar S.nr cr, .slice Af S.nf cf, .int .i64 S.deep, .int .i64 S.haul, .int .i64 S.rest] 150)
  have HS := Lib.hid (hS.mono hb0)
  have hN' := hN.mono hb0
  have HN := Lib.hid hN'
  have HB := Lib.hid hb0
  obtain ⟨n0, n1, n2, n3⟩ := hN
  clear hS hb0 hN'
  have hnf := ok.nf
  obtain ⟨L, hL⟩ : ∃ L, L = min M S.nf := ⟨_, rfl⟩
  have hmin : (if (S.nf : Int) < (M : Int) then (S.nf : Int) else (M : Int)) = (L : Int) := by split <;> omega
  have hmin2 : (if S.nf < M then (S.nf : Int) else (M : Int)) = (L : Int) := by split <;> omega
  have hL2 : L ≤ S.nf := by omega
  rw [← hL]
  clear hL
  go_enter Tryz.func194, Tryz.ntmps194
  go_wp2_with (go_at_call 203; refine (repeat_any _ _ (S.nf + 1) _ (by omega) _ (by omega) (by omega) ⟨(by simp), fun i hi => (by obtain rfl : i = 0 := (by omega); simp [go_sem, noWay]), fun i hi => (by obtain rfl : i = 0 := (by omega); simp [go_sem, noWay]), fun i hi => (by obtain rfl : i = 0 := (by omega); simp [go_sem, noWay]), fun j => (by simp [go_sem])⟩).mono ?_; rintro e w1 ⟨g1, c1, rfl, hg1, hW1, hb1⟩; obtain ⟨bc1, bf1⟩ := bcell hb1; have hz1 := hb1.size; simp only [World.size_alloc] at hz1 hg1; have hy1 : w.heap.size + 1 < w1.heap.size := (by omega); have k0 := hW1.c0 S.nf (by omega); have k1 := hW1.c1 S.nf (by omega); have k2 := hW1.c2 S.nf (by omega); have kf := hW1.fr; have HW1 := Lib.hid hW1; clear hW1)
  have HB1 := Lib.hid (bTrans (bAlloc (Below.refl _ (w.alloc (.cells #[.slice Ar S.nr cr, .slice Af S.nf cf, .int .i64 S.deep, .int .i64 S.haul, .int .i64 S.rest] 150))) (.cells #[.int .i64 (-1), .int .i64 0, .int .i64 0] 198)) hb1)
  clear hb1
  have HF : ∀ (i : Nat), S.waysOf ltP 0 i = if i = S.nf then ⟨0, 0, 0⟩ else noWay := fun i => rfl
  have HF0 := Lib.hid HF
  clear HF
  go_loopw [8, 29] (fun o i wr => ∃ (k g c : Nat), k ≤ L ∧ i = .int .i64 k ∧ o = .slice (some ⟨g, 0, none⟩) (S.nf + 1) c ∧ w.heap.size < g ∧ WaysAt wr g (S.nf + 1) (S.waysOf ltP k) ∧ Below (w.alloc (.cells #[.slice Ar S.nr cr, .slice Af S.nf cf, .int .i64 S.deep, .int .i64 S.haul, .int .i64 S.rest] 150)).heap.size (w.alloc (.cells #[.slice Ar S.nr cr, .slice Af S.nf cf, .int .i64 S.deep, .int .i64 S.haul, .int .i64 S.rest] 150)) wr) (fun _ i _ => L - (intOf i).toNat)
  case atStart => exact ⟨0, g1, c1, Nat.zero_le _, rfl, rfl, by omega, (HW1.out.set (d := S.nf) (by omega) ⟨0, 0, 0⟩).congr (fun i _ => (HF0.out i).symm), ((HB1.out.setCell (by simp; omega) _).setCell (by simp; omega) _).setCell (by simp; omega) _⟩
  case round =>
    obtain ⟨k, g, c, hk, rfl, rfl, hg, hW, hB⟩ := hrel
    obtain ⟨bc, bf⟩ := bcell hB
    have hz := hB.size
    simp only [World.size_alloc] at hz
    have hy : w.heap.size < wr.heap.size := hz
    have hglt := hW.lt
    have HW2 := Lib.hid hW
    have HB2 := Lib.hid hB
    clear hW hB HW1 HB1 k0 k1 k2 kf hg1 hy1 hz1 bc1 bf1
    by_cases hlt : k < L
    · have hin := fun d (hd : d ≤ S.nf) => waysOf_in ok ltP k d hd
      have HQ0 : ∀ j, S.waysOf ltP (k + 1) j = S.moreWays ltP (S.waysOf ltP k) j := fun j => rfl
      have HQ := Lib.hid HQ0
      have HI := Lib.hid hin
      clear hin HQ0
      obtain ⟨Q, hQ⟩ : ∃ Q, Q = S.waysOf ltP (k + 1) := ⟨_, rfl⟩
      rw [← hQ] at HQ
      have HQE := Lib.hid hQ
      clear hQ
      generalize S.waysOf ltP k = P at HW2 HQ HI
      go_wp2_with (go_at_call 204; refine (clone_any _ _ _ _ _ (by omega) (by omega) HW2.out).mono ?_; rintro e w2 ⟨g2, c2, rfl, hg2, hW2, hb2⟩)
      have hgg : g ≠ g2 := by omega
      have HW3 := Lib.hid hW2
      have HW4 := Lib.hid (HW2.out.mono hb2)
      have HB3 := Lib.hid (bTrans HB2.out hb2)
      have hg3 : w.heap.size < g2 := by omega
      clear hW2 hb2 hg2
      go_loopw [34] (fun i wr2 => ∃ d : Nat, d ≤ S.nf ∧ i = .int .i64 d ∧ WaysAt wr2 g2 (S.nf + 1) (fun j => if j < d then Q j else P j) ∧ WaysAt wr2 g (S.nf + 1) P ∧ Below (w.alloc (.cells #[.slice Ar S.nr cr, .slice Af S.nf cf, .int .i64 S.deep, .int .i64 S.haul, .int .i64 S.rest] 150)).heap.size (w.alloc (.cells #[.slice Ar S.nr cr, .slice Af S.nf cf, .int .i64 S.deep, .int .i64 S.haul, .int .i64 S.rest] 150)) wr2) (fun i _ => S.nf - (intOf i).toNat)
      case atStart => exact ⟨0, Nat.zero_le _, rfl, HW3.out.congr (fun j _ => by simp), HW4.out, HB3.out⟩
      case round =>
        obtain ⟨d, hd, rfl, hM2, hP2, hB⟩ := hrel
        have HM := Lib.hid hM2
        have HP := Lib.hid hP2
        have HB4 := Lib.hid hB
        clear hM2 hP2 hB
        by_cases hdlt : d < S.nf
        · obtain ⟨fb0, fb1⟩ := S.falls_bd hd
          go_wp2_with fail
          go_loopw [11] (fun i wr3 => ∃ m : Nat, d + m ≤ S.falls d ∧ i = .int .i64 (d + 1 + m : Nat) ∧ WaysAt wr3 g2 (S.nf + 1) (fun j => if j < d then Q j else if j = d then S.lookTo ltP P d m else P j) ∧ WaysAt wr3 g (S.nf + 1) P ∧ Below (w.alloc (.cells #[.slice Ar S.nr cr, .slice Af S.nf cf, .int .i64 S.deep, .int .i64 S.haul, .int .i64 S.rest] 150)).heap.size (w.alloc (.cells #[.slice Ar S.nr cr, .slice Af S.nf cf, .int .i64 S.deep, .int .i64 S.haul, .int .i64 S.rest] 150)) wr3) (fun i _ => S.falls d + 1 - (intOf i).toNat)
          case atStart => exact ⟨0, by omega, rfl, HM.out.congr (fun j _ => by by_cases e : j = d <;> simp [e, Sh.lookTo]), HP.out, HB4.out⟩
          case round =>
            obtain ⟨m, hm, rfl, hM3, hP3, hB⟩ := hrel
            obtain ⟨bc4, bf4⟩ := bcell hB
            have hz4 := hB.size
            simp only [World.size_alloc] at hz4
            have hy4 : w.heap.size < wr.heap.size := hz4
            have ho4 : 0 < wr.heap.size := by omega
            have hx4 := hM3.lt
            have hx5 := hP3.lt
            have HM5 := Lib.hid hM3
            have HP5 := Lib.hid hP3
            have HB5 := Lib.hid hB
            have HS5 := Lib.hid (HS.out.mono hB)
            clear hM3 hP3 hB
            by_cases hlast : d + m = S.falls d
            · go_wp2_with (go_at_call 205; refine (falls_any _ _ _ _ S _ ok HS5.out d hd).mono ?_; rintro e w5 ⟨rfl, hb5⟩)
              have HMM := Lib.hid (HM5.out.mono hb5)
              have HPM := Lib.hid (HP5.out.mono hb5)
              have HBM := Lib.hid (bTrans HB5.out hb5)
              clear hb5
              go_roundw
              case rel =>
                refine ⟨d + 1, by omega, by go_num, HMM.out.congr (fun j hj => ?_), HPM.out, HBM.out⟩
                rcases Nat.lt_trichotomy j d with h1 | h1 | h1
                · simp [h1, show j < d + 1 from by omega]
                · subst h1
                  rw [if_neg (Nat.lt_irrefl _), if_pos rfl, if_pos (Nat.lt_succ_self _), HQ.out j]
                  unfold Sh.moreWays
                  rw [if_pos hdlt, show S.falls j - j = m from by omega]
                · rw [if_neg (by omega), if_neg (by omega), if_neg (by omega)]
              case measure => simp [intOf]; omega
            · obtain ⟨X, hX⟩ : ∃ X, X = P (d + 1 + m) := ⟨_, rfl⟩
              obtain ⟨Y, hY⟩ : ∃ Y, Y = S.lookTo ltP P d m := ⟨_, rfl⟩
              have a0 := HP5.out.c0 (d + 1 + m) (by omega)
              have a1 := HP5.out.c1 (d + 1 + m) (by omega)
              have a2 := HP5.out.c2 (d + 1 + m) (by omega)
              rw [← hX] at a0 a1 a2
              have b0 : wr.cell? ⟨g2, d * 3, none⟩ = some (.int .i64 Y.rings) := by rw [hY]; simpa using HM5.out.c0 d (by omega)
              have b1 : wr.cell? ⟨g2, d * 3 + 1, none⟩ = some (.int .i64 Y.pence) := by rw [hY]; simpa using HM5.out.c1 d (by omega)
              have b2 : wr.cell? ⟨g2, d * 3 + 2, none⟩ = some (.int .i64 Y.next) := by rw [hY]; simpa using HM5.out.c2 d (by omega)
              have hXI : X.In k := hX ▸ HI.out _ (by omega)
              have hYI : Y.In (k + 1) := hY ▸ lookTo_in ok HI.out m (by omega)
              have HX := Lib.hid hX
              have HY := Lib.hid hY
              clear hX hY
              obtain ⟨x0, x1, x2, x3, x4, x5⟩ := hXI
              obtain ⟨y0, y1, y2, y3, y4, y5⟩ := hYI
              by_cases hno : X = noWay
              · have HNO := Lib.hid hno
                rw [hno] at a0 a1 a2
                have hs1 := sameWay_t X hno
                rw [hno] at hs1
                simp only [noWay] at hs1
                clear hno x0 x1 x2 x3 x4 x5
                simp only [noWay] at a0 a1 a2
                go_wp2_with (go_at_call 205; refine (falls_any _ _ _ _ S _ ok HS5.out d hd).mono ?_; rintro e w5 ⟨rfl, hb5⟩; obtain ⟨bc5, bf5⟩ := bcell hb5; have hz5 := hb5.size; have hy5 : w.heap.size < w5.heap.size := (by omega); have ho5 : 0 < w5.heap.size := (by omega); have hg5 : g < w5.heap.size := (by omega); have hg6 : g2 < w5.heap.size := (by omega))
                have HMM := Lib.hid (HM5.out.mono hb5)
                have HPM := Lib.hid (HP5.out.mono hb5)
                have HBM := Lib.hid (bTrans HB5.out hb5)
                have HSM := Lib.hid (HS5.out.mono hb5)
                clear hb5
                refine wp_region_quiet_below (by kernel_rfl) (by kernel_rfl) ?_
                repeat (go_big_quiet_step (((go_at_call 206; exact Calls.regrown_of (rests_any _ _ _ _ S _ ok (HSM.out.mono (below_regrown _ _ _)) _ (d + 1 + m) (by omega) (by omega) (by omega))))))
                refine wpQuiet_nil ?_
                intro w6 hw6
                have hb6 := below_of_regrown hw6
                clear hw6
                go_wp2_with fail
                go_roundw
                case rel => exact ⟨m + 1, by omega, by go_num, (HMM.out.mono hb6).congr (fun j _ => by rw [show S.lookTo ltP P d (m + 1) = S.lookTo ltP P d m from look_skip (.inl (HX.out ▸ HNO.out))]), HPM.out.mono hb6, bTrans HBM.out hb6⟩
                case measure => simp [intOf]; omega
              · have HNO := Lib.hid hno
                have hs1 := sameWay_f X hno
                clear hno
                cases hr : S.restsB (d + 1 + m)
                · go_wp2_with (go_at_call 205; refine (falls_any _ _ _ _ S _ ok HS5.out d hd).mono ?_; rintro e w5 ⟨rfl, hb5⟩; obtain ⟨bc5, bf5⟩ := bcell hb5; have hz5 := hb5.size; have hy5 : w.heap.size < w5.heap.size := (by omega); have ho5 : 0 < w5.heap.size := (by omega); have hg5 : g < w5.heap.size := (by omega); have hg6 : g2 < w5.heap.size := (by omega))
                  have HMM := Lib.hid (HM5.out.mono hb5)
                  have HPM := Lib.hid (HP5.out.mono hb5)
                  have HBM := Lib.hid (bTrans HB5.out hb5)
                  have HSM := Lib.hid (HS5.out.mono hb5)
                  clear hb5
                  refine wp_region_quiet_below (by kernel_rfl) (by kernel_rfl) ?_
                  repeat (go_big_quiet_step (((go_at_call 206; exact Calls.regrown_of (rests_any _ _ _ _ S _ ok (HSM.out.mono (below_regrown _ _ _)) _ (d + 1 + m) (by omega) (by omega) (by omega))))))
                  refine wpQuiet_nil ?_
                  intro w6 hw6
                  have hb6 := below_of_regrown hw6
                  clear hw6
                  go_wp2_with fail
                  go_roundw
                  case rel => exact ⟨m + 1, by omega, by go_num, (HMM.out.mono hb6).congr (fun j _ => by rw [show S.lookTo ltP P d (m + 1) = S.lookTo ltP P d m from look_skip (.inr hr)]), HPM.out.mono hb6, bTrans HBM.out hb6⟩
                  case measure => simp [intOf]; omega
                · obtain ⟨rb0, rb1⟩ := ring_of_rests ok (d := d + 1 + m) (by omega) (by omega) hr
                  have hcase : (sameWay Y.rings Y.pence Y.next (-1) 0 0 = true ∧ S.lookTo ltP P d (m + 1) = S.wayTo X (d + 1 + m)) ∨ (sameWay Y.rings Y.pence Y.next (-1) 0 0 = false ∧ decide (X.pence + S.ringc (d + 1 + m) < Y.pence) = true ∧ (X.pence + S.ringc (d + 1 + m) < Y.pence) ∧ S.lookTo ltP P d (m + 1) = S.wayTo X (d + 1 + m)) ∨ (sameWay Y.rings Y.pence Y.next (-1) 0 0 = false ∧ decide (X.pence + S.ringc (d + 1 + m) < Y.pence) = false ∧ ¬ (X.pence + S.ringc (d + 1 + m) < Y.pence) ∧ S.lookTo ltP P d (m + 1) = Y) := by
                    have e1 : ¬ (P (d + 1 + m) = noWay ∨ S.restsB (d + 1 + m) = false) := by
                      rintro (h | h)
                      · exact HNO.out (HX.out.trans h)
                      · rw [hr] at h; cases h
                    have e2 : S.lookTo ltP P d (m + 1) = if Y = noWay ∨ ltP (S.wayTo X (d + 1 + m)) Y = true then S.wayTo X (d + 1 + m) else Y := by
                      show S.look ltP P (S.lookTo ltP P d m) (d + 1 + m) = _
                      unfold Sh.look
                      rw [if_neg e1, ← HX.out, ← HY.out]
                    by_cases h1 : Y = noWay
                    · exact .inl ⟨sameWay_t Y h1, by rw [e2, if_pos (.inl h1)]⟩
                    · cases h2 : ltP (S.wayTo X (d + 1 + m)) Y
                      · exact .inr (.inr ⟨sameWay_f Y h1, h2, of_decide_eq_false h2, by rw [e2, if_neg (by rintro (h | h); exact h1 h; rw [h2] at h; cases h)]⟩)
                      · exact .inr (.inl ⟨sameWay_f Y h1, h2, of_decide_eq_true h2, by rw [e2, if_pos (.inr h2)]⟩)
                  rcases hcase with ⟨hs2, he⟩ | ⟨hs2, hlt2, hlt3, he⟩ | ⟨hs2, hlt2, hlt3, he⟩
                  all_goals
                    have HE := Lib.hid he
                    clear he
                    go_wp2_with (go_at_call 205; refine (falls_any _ _ _ _ S _ ok HS5.out d hd).mono ?_; rintro e w5 ⟨rfl, hb5⟩; obtain ⟨bc5, bf5⟩ := bcell hb5; have hz5 := hb5.size; have hy5 : w.heap.size < w5.heap.size := (by omega); have ho5 : 0 < w5.heap.size := (by omega); have hg5 : g < w5.heap.size := (by omega); have hg6 : g2 < w5.heap.size := (by omega))
                    have HMM := Lib.hid (HM5.out.mono hb5)
                    have HPM := Lib.hid (HP5.out.mono hb5)
                    have HBM := Lib.hid (bTrans HB5.out hb5)
                    have HSM := Lib.hid (HS5.out.mono hb5)
                    clear hb5
                    refine wp_region_quiet_below (by kernel_rfl) (by kernel_rfl) ?_
                    repeat (go_big_quiet_step (((go_at_call 206; exact Calls.regrown_of (rests_any _ _ _ _ S _ ok (HSM.out.mono (below_regrown _ _ _)) _ (d + 1 + m) (by omega) (by omega) (by omega))))))
                    refine wpQuiet_nil ?_
                    intro w6 hw6
                    have hb6 := below_of_regrown hw6
                    clear hw6
                    obtain ⟨bc6, bf6⟩ := bcell hb6
                    have hz6 := hb6.size
                    have hy6 : w.heap.size < w6.heap.size := (by omega)
                    have ho6 : 0 < w6.heap.size := (by omega)
                    have hg7 : g < w6.heap.size := (by omega)
                    have hg8 : g2 < w6.heap.size := (by omega)
                    have HM7 := Lib.hid (HMM.out.mono hb6)
                    have HP7 := Lib.hid (HPM.out.mono hb6)
                    have HB7 := Lib.hid (bTrans HBM.out hb6)
                    have HS7 := Lib.hid (HSM.out.mono hb6)
                    clear hb6 HMM HPM HBM HSM
                    go_wp2_with fail
                    have e1 : IntKind.i64.wrap (X.rings + 1) = X.rings + 1 := IntWalk.i64_in _ (by omega)
                    have e2 : IntKind.i64.wrap (X.pence + S.ringc (d + 1 + m)) = X.pence + S.ringc (d + 1 + m) := IntWalk.i64_in _ (by omega)
                    have i1 : (0 : Int) ≤ (d : Int) + 1 + m := by omega
                    have i2 : (d : Int) + 1 + m < (S.nf : Int) + 1 := by omega
                    have i3 : ((d : Int) + 1 + m).toNat = d + 1 + m := by omega
                    refine wp_region_new 18 19 12 75 198 #[.int .i64 0, .int .i64 0, .int .i64 0] (by kernel_rfl) (by kernel_rfl) (by rfl) (by rfl) (by rfl) (by rfl) (by rfl) (by rfl) (fun _ => by kernel_rfl) (by kernel_rfl) (by simp) ?_
                    repeat (first | (refine wpCalm_skip rfl ?_) | (refine wpCalm_step rfl (fun K hK => ?_); go_simp; (first | (refine hK _ ?_; clear hK K) | (apply Exists.intro; refine ⟨fun _ => ?_, hK _ ?_⟩; ((go_at_call 207; exact (ring_any _ _ _ _ S _ ok (HS7.out.mono (below_regrown _ _ _)) _ (d + 1 + m) (by omega) (by omega) (by omega)))); clear hK K))))
                    refine wpCalm_nil ?_
                    clear e1 e2 i1 i2 i3
                    refine ⟨#[.int .i64 (X.rings + 1), .int .i64 (X.pence + S.ringc (d + 1 + m)), .int .i64 ((d : Int) + 1 + m)], rfl, rfl, by simp [Value.oneCell'], ?_⟩
                    intro b w7 hb7 hbb hb2 hblk
                    have hbc : ∀ i, World.cell? w7 ⟨b, i, none⟩ = (#[.int .i64 (X.rings + 1), .int .i64 (X.pence + S.ringc (d + 1 + m)), .int .i64 ((d : Int) + 1 + m)] : Array Value)[i]? := fun i => cell_of_row w7 b i _ _ _ hblk
                    simp only [Act.put, List.setIfInBounds_toArray, List.set_cons_succ, List.set_cons_zero]
                    obtain ⟨bc7, bf7⟩ := bcell hb7
                    have hz7 := hb7.size
                    have hy7 : w.heap.size < w7.heap.size := (by omega)
                    have ho7 : 0 < w7.heap.size := (by omega)
                    have hg9 : g < w7.heap.size := (by omega)
                    have hg10 : g2 < w7.heap.size := (by omega)
                    have HM8 := Lib.hid (HM7.out.mono hb7)
                    have HP8 := Lib.hid (HP7.out.mono hb7)
                    have HB8 := Lib.hid (bTrans HB7.out hb7)
                    obtain ⟨q0, q1, q2, q3⟩ := HN.out.mono HB8.out
                    have m0 : w7.cell? ⟨g2, d * 3, none⟩ = some (.int .i64 Y.rings) := by rw [HY.out]; simpa using HM8.out.c0 d (by omega)
                    have m1 : w7.cell? ⟨g2, d * 3 + 1, none⟩ = some (.int .i64 Y.pence) := by rw [HY.out]; simpa using HM8.out.c1 d (by omega)
                    have m2 : w7.cell? ⟨g2, d * 3 + 2, none⟩ = some (.int .i64 Y.next) := by rw [HY.out]; simpa using HM8.out.c2 d (by omega)
                    have v0 : w7.cell? ⟨b, 0, none⟩ = some (.int .i64 (X.rings + 1)) := hbc 0
                    have v1 : w7.cell? ⟨b, 1, none⟩ = some (.int .i64 (X.pence + S.ringc (d + 1 + m))) := hbc 1
                    have v2 : w7.cell? ⟨b, 2, none⟩ = some (.int .i64 ((d : Int) + 1 + m)) := hbc 2
                    clear hb7 HM7 HP7 HB7 HS7 hbc hblk bc bf bc4 bf4 bc5 bf5 bc6 bf6 bc7 bf7 a0 a1 a2 b0 b1 b2 n0 n1 n2 n3 hs1 hr
                    clear HS HN HS5 HM5 HP5 HB5 x0 x1 x2 x3 x4 x5 y0 y1 y2 y3 y4 y5 rb0 rb1 hz4 hy4 hx4 hx5 hz5 hy5 ho5 hg5 hg6 hz6 hy6 ho6 hg7 hg8 hz7 hbb ho4
                    go_wp2_with fail
                    refine wp_region_quiet_below (by kernel_rfl) (by kernel_rfl) ?_
                    repeat (go_big_quiet_step (((go_at_call 136; exact Calls.regrown_of (cheaper_any ⟨X.rings + 1, X.pence + S.ringc (d + 1 + m), (d : Int) + 1 + m⟩ Y _)))))
                    refine wpQuiet_nil ?_
                    intro w8 hw8
                    have hb8 := below_of_regrown hw8
                    clear hw8
                    obtain ⟨bc8, bf8⟩ := bcell hb8
                    replace m0 := (bc8 _ _ hg10).trans m0
                    replace m1 := (bc8 _ _ hg10).trans m1
                    replace m2 := (bc8 _ _ hg10).trans m2
                    replace v0 := (bc8 _ _ hb2).trans v0
                    replace v1 := (bc8 _ _ hb2).trans v1
                    replace v2 := (bc8 _ _ hb2).trans v2
                    clear q0 q1 q2 q3 bc8 bf8
                    have hz8 := hb8.size
                    have hb9 : b < w8.heap.size := (by omega)
                    have hg11 : g2 < w8.heap.size := (by omega)
                    have HM9 := Lib.hid (HM8.out.mono hb8)
                    have HP9 := Lib.hid (HP8.out.mono hb8)
                    have HB9 := Lib.hid (bTrans HB8.out hb8)
                    have hfr := HM9.out.fr
                    clear hb8 HM8 HP8 HB8
                    go_wp2_with fail
                    go_roundw
                    case rel =>
                      first
                        | exact ⟨m + 1, by omega, by go_num, HM9.out.congr (fun j _ => by
                            by_cases e : j = d
                            · subst e; simp [HE.out, ← HY.out]
                            · simp [e]), HP9.out, HB9.out⟩
                        | exact ⟨m + 1, by omega, by go_num, (HM9.out.set (d := d) (by omega) ⟨X.rings + 1, X.pence + S.ringc (d + 1 + m), (d : Int) + 1 + m⟩).congr (fun j _ => by
                            by_cases e : j = d
                            · subst e; simp [HE.out, Sh.wayTo]
                            · simp [e]), ((HP9.out.other (fun e => hgg e.symm) _).other (fun e => hgg e.symm) _).other (fun e => hgg e.symm) _, ((HB9.out.setCell (by simp; omega) _).setCell (by simp; omega) _).setCell (by simp; omega) _⟩
                    case measure => simp [intOf]; omega
        · obtain rfl : d = S.nf := by omega
          go_wp2_with fail
          go_roundw
          case rel => exact ⟨k + 1, g2, c2, by omega, by go_num, rfl, hg3, by rw [← HQE.out]; exact HM.out.congr (fun j hj => by
            by_cases e : j < S.nf
            · rw [if_pos e]
            · rw [if_neg e, HQ.out j]; unfold Sh.moreWays; rw [if_neg e]), HB4.out⟩
          case measure => simp [intOf]; omega
    · obtain rfl : k = L := by omega
      go_wp2_with fail
      go_ret
      exact ⟨g, c, rfl, by omega, HW2.out, bTrans HB.out HB2.out⟩
end Go.Proofs.YthnojgdckkdcgaaGreatDoor


namespace Go.Proofs.YthnojgdckkdcgaaGreatDoor
open Go.RowKit Go.Sort
theorem intL_congr {g g' : Nat → Int} {n : Nat} (h : ∀ i, i < n → g i = g' i) : intL g n = intL g' n := by
  induction n with
  | zero => rfl
  | succ n ih => simp only [intL, ih (fun i hi => h i (by omega)), h n (by omega)]
theorem IntsAt.other {w : World} {A : Option Addr} {n : Nat} {g : Nat → Int} (h : IntsAt w A n g) {p : Addr} (hp : ∀ q, A = some q → q.block ≠ p.block) (v : Value) : IntsAt (w.setCell p v) A n g := by
  rcases h with h | ⟨b, o, rfl, hlt, hc⟩
  · exact .inl h
  · exact .inr ⟨b, o, rfl, by simpa [World.setCell] using hlt, fun i hi => (World.cell?_setCell_other _ _ _ _ (fun e => hp _ rfl (by rw [e]))).trans (hc i hi)⟩
theorem waysOf_next {S : Sh} (lt : Way → Way → Bool) : ∀ k d, d ≤ S.nf → 0 < (S.waysOf lt k d).next → (d : Int) < (S.waysOf lt k d).next ∧ (S.waysOf lt k d).next ≤ S.nf
  | 0, d, hd => by
    unfold Sh.waysOf
    split <;> simp [noWay]
  | k + 1, d, hd => by
    have ih := waysOf_next lt k d hd
    obtain ⟨b0, b1⟩ := S.falls_bd hd
    have key : ∀ m, d + m ≤ S.nf → 0 < (S.lookTo lt (S.waysOf lt k) d m).next → (d : Int) < (S.lookTo lt (S.waysOf lt k) d m).next ∧ (S.lookTo lt (S.waysOf lt k) d m).next ≤ S.nf := by
      intro m
      induction m with
      | zero => exact fun _ => ih
      | succ m im =>
        intro hm
        have im := im (by omega)
        simp only [Sh.lookTo, Sh.look]
        split
        · exact im
        · split
          · intro _; simp only [Sh.wayTo]; omega
          · exact im
    show 0 < (S.moreWays lt (S.waysOf lt k) d).next → (d : Int) < (S.moreWays lt (S.waysOf lt k) d).next ∧ (S.moreWays lt (S.waysOf lt k) d).next ≤ S.nf
    unfold Sh.moreWays
    split
    · exact key _ (by omega)
    · exact ih
/-- stops that follow the ways from depth 0 on -/
structure ChainTo (f : Nat → Way) (m : Nat) (g : Nat → Int) : Prop where
  step : ∀ i, i < m → g i = (f (stopAt g i)).next
  pos : ∀ i, i < m → 0 < g i
theorem stopAt_congr {g g' : Nat → Int} {m : Nat} (h : ∀ i, i < m → g i = g' i) : stopAt g m = stopAt g' m := by
  cases m with
  | zero => rfl
  | succ m => simp only [stopAt, h m (by omega)]
theorem ChainTo.more {f : Nat → Way} {m : Nat} {g : Nat → Int} (h : ChainTo f m g) (h0 : 0 < (f (stopAt g m)).next) : ChainTo f (m + 1) (fun i => if i = m then (f (stopAt g m)).next else g i) := by
  have hc : ∀ i, i < m → g i = (fun i => if i = m then (f (stopAt g m)).next else g i) i := fun i hi => by simp [show i ≠ m from by omega]
  refine ⟨fun i hi => ?_, fun i hi => ?_⟩
  · rw [← stopAt_congr (g := g) (g' := fun i => if i = m then (f (stopAt g m)).next else g i) (m := i) (fun j hj => hc j (by omega))]
    by_cases e : i = m
    · subst e; simp
    · simp only [if_neg e]; exact h.step i (by omega)
  · by_cases e : i = m
    · subst e; simpa using h0
    · simp only [if_neg e]; exact h.pos i (by omega)
/-- what best hands back -/
def Bested (w w' : World) (f : Nat → Way) (n : Nat) (e : Ending) : Prop :=
  Below w.heap.size w w' ∧ ((f 0 = noWay ∧ e = .returned (.tuple #[.agg #[.int .i64 (-1), .int .i64 0, .int .i64 0], .slice none 0 0, .bool false])) ∨
    (f 0 ≠ noWay ∧ ∃ A m c g, e = .returned (.tuple #[.agg #[.int .i64 (f 0).rings, .int .i64 (f 0).pence, .int .i64 (f 0).next], .slice A m c, .bool true]) ∧ m ≤ n ∧ ChainTo f m g ∧ ¬ 0 < (f (stopAt g m)).next ∧ IntsAt w' A m g ∧ ∀ p, A = some p → w.heap.size ≤ p.block))
end Go.Proofs.YthnojgdckkdcgaaGreatDoor


namespace Go.Proofs.YthnojgdckkdcgaaGreatDoor
open Go.RowKit Go.Sort
set_option maxHeartbeats 8000000 in
set_option maxRecDepth 100000 in
theorem best_cheaper (Ar Af : Option Addr) (cr cf : Nat) (S : Sh) (w : World) (ok : S.Ok) (hS : ShAt w Ar Af S) (hN : NoneAt w) (M : Nat) (hM : M ≤ 12) :
    Calls Tryz.prog 167 #[.agg #[.slice Ar S.nr cr, .slice Af S.nf cf, .int .i64 S.deep, .int .i64 S.haul, .int .i64 S.rest], .func (.func 136) #[] #[], .int .i64 M] w fun e w' => Bested w w' (S.waysOf ltP (min M S.nf)) S.nf e := by
  have hb0 := bAlloc (bAlloc (Below.refl w.heap.size w) (.cells #[.slice Ar S.nr cr, .slice Af S.nf cf, .int .i64 S.deep, .int .i64 S.haul, .int .i64 S.rest] 150)) (.cells #[.int .i64 0, .int .i64 0, .int .i64 0] 198)
  have HS := Lib.hid (hS.mono hb0)
  have HN := Lib.hid (hN.mono hb0)
  have HB := Lib.hid hb0
  obtain ⟨n0, n1, n2, n3⟩ := hN
  clear hS hb0
  have hnf := ok.nf
  have HNX := Lib.hid (waysOf_next (S := S) ltP (min M S.nf))
  generalize hf : S.waysOf ltP (min M S.nf) = f at HNX
  have HF := Lib.hid hf
  clear hf
  obtain ⟨i0, hi, iz0, iz1, iz2⟩ := info_parts infoInt
  by_cases hno : f 0 = noWay
  all_goals
    have HNO := Lib.hid hno
    clear hno
    go_enter Tryz.func167, Tryz.ntmps167
    go_wp2_with (go_at_call 194; refine (ways_cheaper _ _ _ _ S _ ok HS.out HN.out M hM).mono ?_; rintro e w1 ⟨g1, c1, rfl, hg1, hW1, hb1⟩; rw [HF.out] at hW1; obtain ⟨bc1, bf1⟩ := bcell hb1; have hz1 := hb1.size; simp only [World.size_alloc] at hz1; have hy1 : w.heap.size + 1 < w1.heap.size := (by omega))
    have hglt := hW1.lt
    have k0 := hW1.c0 0 (by omega)
    have k1 := hW1.c1 0 (by omega)
    have k2 := hW1.c2 0 (by omega)
    have ho1 : 0 < w1.heap.size := (by omega)
    simp only [Nat.zero_mul, Nat.zero_add] at k0 k1 k2
    have HW1 := Lib.hid hW1
    have HB1 := Lib.hid hb1
    clear hW1 hb1
  · have hs := sameWay_t _ HNO.out
    rw [HNO.out] at hs k0 k1 k2
    simp only [noWay] at hs k0 k1 k2
    refine wp_region_quiet_below (by kernel_rfl) (by kernel_rfl) ?_
    repeat (go_big_quiet_step ((fail)))
    refine wpQuiet_nil ?_
    intro w2 hw2
    have hb2 := below_of_regrown hw2
    clear hw2
    obtain ⟨bc2, bf2⟩ := bcell hb2
    have hz2 := hb2.size
    have hy2 : w.heap.size + 1 < w2.heap.size := by omega
    have ho2 : 0 < w2.heap.size := by omega
    go_wp2_with fail
    have hb1 := HB1.out
    exact bodyPost_ret (v := .tuple #[.agg #[.int .i64 (-1), .int .i64 0, .int .i64 0], .slice none 0 0, .bool false]) (by simp [results, Tryz.results167, go_sem, *]) rfl ⟨by (repeat (first | (with_reducible exact Below.refl _ _) | (with_reducible refine bAlloc ?_ _) | (with_reducible refine bDrew ?_) | (with_reducible refine bGrow ?_ _ _) | (with_reducible refine bSet ?_ ?_ _; (first | exact Nat.le_refl _ | exact Nat.le_add_right _ _ | (simp; omega))) | (with_reducible refine bTrans ?_ (by assumption)))), .inl ⟨HNO.out, rfl⟩⟩
  · have hs := sameWay_f _ HNO.out
    refine wp_region_quiet_below (by kernel_rfl) (by kernel_rfl) ?_
    repeat (go_big_quiet_step ((fail)))
    refine wpQuiet_nil ?_
    intro w2 hw2
    have hb2 := below_of_regrown hw2
    clear hw2
    go_wp2_with fail
    have HW2 := Lib.hid (HW1.out.mono hb2)
    have HB2 := Lib.hid (bTrans HB1.out hb2)
    have hz2 := hb2.size
    clear HW1 HB1 hb2 k0 k1 k2 hglt
    go_loopw [10, 11] (fun v i wr => ∃ m g, i = .int .i64 (stopAt g m : Nat) ∧ stopAt g m ≤ S.nf ∧ m ≤ stopAt g m ∧ ChainTo f m g ∧ wr.ownsRow w2.heap.size 3 1 v m (intL g m) ∧ Below w2.heap.size w2 wr) (fun _ i _ => S.nf - (intOf i).toNat)
    case atStart => exact ⟨0, fun _ => 0, rfl, Nat.zero_le _, Nat.le_refl _, ⟨fun i hi => by omega, fun i hi => by omega⟩, World.ownsRow_nil _ _ _ _, Below.refl _ _⟩
    case round =>
      obtain ⟨m, g, rfl, hm1, hm2, hch, hown, hB⟩ := hrel
      have HW3 := Lib.hid (HW2.out.mono hB)
      have k2 := HW3.out.c2 (stopAt g m) (by omega)
      have k0 := HW3.out.c0 0 (by omega)
      have k1 := HW3.out.c1 0 (by omega)
      have k3 := HW3.out.c2 0 (by omega)
      simp only [Nat.zero_mul, Nat.zero_add] at k0 k1 k3
      have hglt := HW3.out.lt
      have HC := Lib.hid hch
      have HO := Lib.hid hown
      have HB3 := Lib.hid hB
      clear hch hown
      have hz3 := hB.size
      obtain ⟨bc3, bf3⟩ := bcell (bTrans HB2.out hB)
      clear hB
      by_cases hpos : 0 < (f (stopAt g m)).next
      · obtain ⟨p0, p1⟩ := HNX.out (stopAt g m) hm1 hpos
        obtain ⟨nx, hnx⟩ : ∃ nx : Nat, (f (stopAt g m)).next = nx := ⟨((f (stopAt g m)).next).toNat, by omega⟩
        have HNXT := Lib.hid hnx
        rw [hnx] at k2 p0 p1 hpos
        clear hnx bc3 bf3
        go_wp2_with (at_builtin; refine wpList_append_own _ rfl _ _ 34 rfl w2.heap.size 3 i0 (.int .i64 0) 1 8 Tryz.underlying34 hi iz0 iz1 iz2 rfl (by decide) _ _ _ rfl (HO.out.alloc _) ⟨wr.heap.size, 0, none⟩ 1 1 [.int .i64 (nx : Int)] rfl rfl ?qc2 ?qc3 ?qc4 ?qc5 ?qc6 ?_)
        case qc2 =>
          intro j u hj
          match j, hj with
          | 0, hj => simp at hj; subst hj; simp [Addr.add]
        case qc3 => intro u hu; simp at hu; subst hu; rfl
        case qc4 => unfold maxLen; omega
        case qc5 => omega
        case qc6 => simp; omega
        intro v' w4 hown4 hgrow _
        have HB4 := Lib.hid (((HB3.out.alloc HB3.out.size _).grown hgrow (by simp; omega) (fun k hk => (HO.out.lt k hk).1)))
        have HW4 := Lib.hid (HW2.out.mono HB4.out)
        have k4 := HW4.out.c2 (stopAt g m) (by omega)
        rw [HNXT.out] at k4
        have HO4 := Lib.hid hown4
        clear hown4 hgrow k0 k1 k2 k3
        go_wp2_with fail
        go_roundw
        case rel =>
          have hc : ∀ i, i < m → (fun i => if i = m then (f (stopAt g m)).next else g i) i = g i := fun i hi => by simp [show i ≠ m from by omega]
          have hl : intL (fun i => if i = m then (f (stopAt g m)).next else g i) (m + 1) = intL g m ++ [.int .i64 (nx : Int)] := by
            simp only [intL]; rw [intL_congr hc]; simp [HNXT.out]
          have hs : stopAt (fun i => if i = m then (f (stopAt g m)).next else g i) (m + 1) = nx := by
            show (if m = m then (f (stopAt g m)).next else g m).toNat = nx
            rw [if_pos rfl, HNXT.out]; rfl
          refine ⟨m + 1, fun i => if i = m then (f (stopAt g m)).next else g i, ?_, ?_, ?_, HC.out.more (by rw [HNXT.out]; exact hpos), ?_, HB4.out⟩
          · rw [hs]
          · rw [hs]; omega
          · rw [hs]; omega
          · rw [hl]; exact HO4.out
        case measure => simp [intOf]; omega
      · go_wp2_with fail
        obtain ⟨A, c, hv, hI, hblk⟩ := intsAt_own HO.out
        subst hv
        have hb1 := bTrans (bTrans HB.out HB2.out) HB3.out
        have HII := Lib.hid hI
        have hoth : ∀ q, A = some q → q.block ≠ w.heap.size + 1 := fun q hq => by have := hblk q hq; omega
        have HOT := Lib.hid hoth
        have HBK := Lib.hid (fun p (hp : A = some p) => (show w.heap.size ≤ p.block from by have := hblk p hp; omega))
        clear hI hblk hoth
        refine bodyPost_ret (v := .tuple #[.agg #[.int .i64 (f 0).rings, .int .i64 (f 0).pence, .int .i64 (f 0).next], .slice A m c, .bool true]) (by simp [results, Tryz.results167, go_sem, *]) rfl ⟨by (repeat (first | (with_reducible exact Below.refl _ _) | (with_reducible refine bAlloc ?_ _) | (with_reducible refine bDrew ?_) | (with_reducible refine bGrow ?_ _ _) | (with_reducible refine bSet ?_ ?_ _; (first | exact Nat.le_refl _ | exact Nat.le_add_right _ _ | (simp; omega))) | (with_reducible refine bTrans ?_ (by assumption)))), .inr ⟨HNO.out, A, m, c, g, rfl, by omega, HC.out, by omega, ?_, HBK.out⟩⟩
        exact ((HII.out.other HOT.out _).other HOT.out _).other HOT.out _
end Go.Proofs.YthnojgdckkdcgaaGreatDoor


namespace Go.Proofs.YthnojgdckkdcgaaGreatDoor
open Go.RowKit Go.Sort
/-- what find hands back -/
def Sought (w w' : World) (Ar Af : Option Addr) (cr cf : Nat) (S : Sh) (f : Nat → Way) (e : Ending) : Prop :=
  Below w.heap.size w w' ∧ ((¬ S.Ok ∧ e = .returned (.tuple #[.agg #[.slice none 0 0, .slice none 0 0, .int .i64 0, .int .i64 0, .int .i64 0], .agg #[.int .i64 (-1), .int .i64 0, .int .i64 0], .slice none 0 0, .int .i64 20])) ∨
    (S.Ok ∧ f 0 = noWay ∧ e = .returned (.tuple #[.agg #[.slice none 0 0, .slice none 0 0, .int .i64 0, .int .i64 0, .int .i64 0], .agg #[.int .i64 (-1), .int .i64 0, .int .i64 0], .slice none 0 0, .int .i64 3])) ∨
    (S.Ok ∧ f 0 ≠ noWay ∧ ∃ A m c g, e = .returned (.tuple #[.agg #[.slice Ar S.nr cr, .slice Af S.nf cf, .int .i64 S.deep, .int .i64 S.haul, .int .i64 S.rest], .agg #[.int .i64 (f 0).rings, .int .i64 (f 0).pence, .int .i64 (f 0).next], .slice A m c, .int .i64 0]) ∧ m ≤ S.nf ∧ ChainTo f m g ∧ ¬ 0 < (f (stopAt g m)).next ∧ IntsAt w' A m g ∧ ∀ p, A = some p → w.heap.size ≤ p.block))
end Go.Proofs.YthnojgdckkdcgaaGreatDoor


namespace Go.Proofs.YthnojgdckkdcgaaGreatDoor
open Go.RowKit Go.Sort
set_option maxHeartbeats 8000000 in
set_option maxRecDepth 100000 in
theorem find_cheaper (Ar Af : Option Addr) (cr cf : Nat) (S : Sh) (w : World) (hr : S.nr ≤ 9223372036854775807) (hf : S.nf ≤ 9223372036854775807) (hS : ShAt w Ar Af S) (hN : NoneAt w) :
    Calls Tryz.prog 135 #[.agg #[.slice Ar S.nr cr, .slice Af S.nf cf, .int .i64 S.deep, .int .i64 S.haul, .int .i64 S.rest], .func (.func 136) #[] #[]] w fun e w' => Sought w w' Ar Af cr cf S (S.waysOf ltP S.nf) e := by
  have hb0 := bAlloc (bAlloc (bAlloc (Below.refl w.heap.size w) (.cells #[.slice Ar S.nr cr, .slice Af S.nf cf, .int .i64 S.deep, .int .i64 S.haul, .int .i64 S.rest] 68)) (.cells #[.slice none 0 0, .slice none 0 0, .int .i64 0, .int .i64 0, .int .i64 0] 150)) (.cells #[.int .i64 0, .int .i64 0, .int .i64 0] 198)
  have HS := Lib.hid (hS.mono hb0)
  have HN := Lib.hid (hN.mono hb0)
  have HB := Lib.hid hb0
  obtain ⟨n0, n1, n2, n3⟩ := hN
  clear hS hb0
  by_cases hok : S.Ok
  · have hnf := hok.nf
    have hm : min 12 S.nf = S.nf := by omega
    generalize hff : S.waysOf ltP S.nf = f
    have HF := Lib.hid hff
    have HM := Lib.hid hm
    clear hff hm
    go_enter Tryz.func135, Tryz.ntmps135
    go_wp2_with (first | (go_at_call 94; refine (open_yes _ _ _ _ S _ hok HS.out).mono ?_; rintro e w1 ⟨rfl, hb1⟩; obtain ⟨bc1, bf1⟩ := bcell hb1; have hz1 := hb1.size; simp only [World.size_alloc] at hz1; have hy1 : w.heap.size + 2 < w1.heap.size := (by omega); have hx1 : w.heap.size + 1 < w1.heap.size := (by omega); have hw1 : w.heap.size < w1.heap.size := (by omega); have ho1 : 0 < w1.heap.size := (by omega); have HS1 := Lib.hid (HS.out.mono hb1); have HN1 := Lib.hid (HN.out.mono hb1)) | (go_at_call 167; refine (best_cheaper _ _ _ _ S _ hok (HS1.out.mono (bAlloc (Below.refl _ _) _)) (HN1.out.mono (bAlloc (Below.refl _ _) _)) 12 (Nat.le_refl _)).mono ?_; rintro e w2 ⟨hb2, h2⟩; rw [HM.out, HF.out] at h2; obtain ⟨bc2, bf2⟩ := bcell hb2; have hz2 := hb2.size; simp only [World.size_alloc] at hz2; have hy2 : w.heap.size + 2 < w2.heap.size := (by omega); have hx2 : w.heap.size + 1 < w2.heap.size := (by omega); have hv2 : w1.heap.size < w2.heap.size := (by omega); have ho2 : 0 < w2.heap.size := (by omega); rcases h2 with ⟨h20, rfl⟩ | ⟨h20, A, m, c, g, rfl, hmn, hch, hend, hI, hblk⟩))
    · go_region
      go_wp2_with fail
      exact bodyPost_ret (v := .tuple #[.agg #[.slice none 0 0, .slice none 0 0, .int .i64 0, .int .i64 0, .int .i64 0], .agg #[.int .i64 (-1), .int .i64 0, .int .i64 0], .slice none 0 0, .int .i64 3]) (by simp [results, Tryz.results135, go_sem, *]) rfl ⟨by (repeat (first | (with_reducible exact Below.refl _ _) | (with_reducible refine bAlloc ?_ _) | (with_reducible refine bDrew ?_) | (with_reducible refine bGrow ?_ _ _) | (with_reducible refine bSet ?_ ?_ _; (first | exact Nat.le_refl _ | exact Nat.le_add_right _ _ | (simp; omega))) | (with_reducible refine bTrans ?_ (by assumption)))), .inr (.inl ⟨hok, h20, rfl⟩)⟩
    · have HI := Lib.hid hI
      have h1 : ∀ q, A = some q → q.block ≠ w.heap.size + 1 := fun q hq => by have := hblk q hq; simp only [World.size_alloc] at this; omega
      have h2 : ∀ q, A = some q → q.block ≠ w.heap.size + 1 + 1 := fun q hq => by have := hblk q hq; simp only [World.size_alloc] at this; omega
      have HK := Lib.hid (fun p (hp : A = some p) => (show w.heap.size ≤ p.block from by have := hblk p hp; simp only [World.size_alloc] at this; omega))
      have H1 := Lib.hid h1
      have H2 := Lib.hid h2
      clear hI hblk h1 h2
      go_region
      go_wp2_with fail
      refine bodyPost_ret (v := .tuple #[.agg #[.slice Ar S.nr cr, .slice Af S.nf cf, .int .i64 S.deep, .int .i64 S.haul, .int .i64 S.rest], .agg #[.int .i64 (f 0).rings, .int .i64 (f 0).pence, .int .i64 (f 0).next], .slice A m c, .int .i64 0]) (by simp [results, Tryz.results135, go_sem, *]) rfl ⟨by (repeat (first | (with_reducible exact Below.refl _ _) | (with_reducible refine bAlloc ?_ _) | (with_reducible refine bDrew ?_) | (with_reducible refine bGrow ?_ _ _) | (with_reducible refine bSet ?_ ?_ _; (first | exact Nat.le_refl _ | exact Nat.le_add_right _ _ | (simp; omega))) | (with_reducible refine bTrans ?_ (by assumption)))), .inr (.inr ⟨hok, h20, A, m, c, g, rfl, hmn, hch, by omega, ?_, HK.out⟩)⟩
      refine IntsAt.drew (IntsAt.alloc ?_ _)
      exact ((((((((HI.out.other (p := ⟨w.heap.size + 1, 0, none⟩) H1.out _).other (p := ⟨w.heap.size + 1, 1, none⟩) H1.out _).other (p := ⟨w.heap.size + 1, 2, none⟩) H1.out _).other (p := ⟨w.heap.size + 1, 3, none⟩) H1.out _).other (p := ⟨w.heap.size + 1, 4, none⟩) H1.out _).other (p := ⟨w.heap.size + 1 + 1, 0, none⟩) H2.out _).other (p := ⟨w.heap.size + 1 + 1, 1, none⟩) H2.out _).other (p := ⟨w.heap.size + 1 + 1, 2, none⟩) H2.out _)
  · go_enter Tryz.func135, Tryz.ntmps135
    go_wp2_with (go_at_call 94; refine (open_no _ _ _ _ S _ _ hr hf HS.out 20 (.inl ⟨hok, rfl⟩)).mono ?_; rintro e w1 ⟨rfl, hb1⟩; obtain ⟨bc1, bf1⟩ := bcell hb1; have hz1 := hb1.size; simp only [World.size_alloc] at hz1; have hy1 : w.heap.size + 2 < w1.heap.size := (by omega); have hx1 : w.heap.size + 1 < w1.heap.size := (by omega); have hw1 : w.heap.size < w1.heap.size := (by omega); have ho1 : 0 < w1.heap.size := (by omega))
    go_region
    go_wp2_with fail
    exact bodyPost_ret (v := .tuple #[.agg #[.slice none 0 0, .slice none 0 0, .int .i64 0, .int .i64 0, .int .i64 0], .agg #[.int .i64 (-1), .int .i64 0, .int .i64 0], .slice none 0 0, .int .i64 20]) (by simp [results, Tryz.results135, go_sem, *]) rfl ⟨by (repeat (first | (with_reducible exact Below.refl _ _) | (with_reducible refine bAlloc ?_ _) | (with_reducible refine bDrew ?_) | (with_reducible refine bGrow ?_ _ _) | (with_reducible refine bSet ?_ ?_ _; (first | exact Nat.le_refl _ | exact Nat.le_add_right _ _ | (simp; omega))) | (with_reducible refine bTrans ?_ (by assumption)))), .inl ⟨hok, rfl⟩⟩
end Go.Proofs.YthnojgdckkdcgaaGreatDoor


