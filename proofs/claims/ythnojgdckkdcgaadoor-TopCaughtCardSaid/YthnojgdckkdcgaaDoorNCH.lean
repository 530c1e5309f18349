/- Parts joined: what all claims of this seat need. -/
import Derived.Test.YthnojgdckkdcgaaDoorNCB
import Derived.Test.YthnojgdckkdcgaaDoorNCG
import Derived.Test.YthnojgdckkdcgaaDoorTie
import Derived.ProofKit
import Derived.LaidMore
import Derived.OpenShut
import Derived.Deep.Slices
import Derived.Deep.Fields
import Derived.Stop.Joined
import Derived.Test.YthnojgdckkdcgaaDoorNCD
set_option linter.unusedSimpArgs false
set_option linter.unusedVariables false
namespace Go.Proofs.YthnojgdckkdcgaaDoor
open Go.RowKit Go.Sort
/-- all blocks of some types are kept -/
def Kept (l : List TypeId) (w w' : World) : Prop := w.heap.size ≤ w'.heap.size ∧ ∀ (b : Nat) (cs : Array Value) (t : TypeId) (fr : Nat × Nat), w.heap[b]? = some (Obj.cells cs t fr) → t ∈ l → w'.heap[b]? = w.heap[b]?
theorem Kept.of_below {l : List TypeId} {w w' : World} (h : Below w.heap.size w w') : Kept l w w' := ⟨h.size, fun b _ _ _ hb _ => h.block b (Array.getElem?_eq_some_iff.1 hb).1⟩
theorem Kept.of_grown {l : List TypeId} {w w' : World} {row : Option Nat} (hg : w.grownBy w' row) (ht : ∀ g, row = some g → ∃ cur e fr, w.heap[g]? = some (Obj.cells cur e fr) ∧ e ∉ l) : Kept l w w' :=
  ⟨hg.size, fun b cs t fr hb hl => hg.block b (Array.getElem?_eq_some_iff.1 hb).1 fun e => by
    obtain ⟨cur, e', fr', h1, h2⟩ := ht b e.symm
    rw [hb] at h1
    injection h1 with h1
    injection h1 with _ h1 _
    exact h2 (h1 ▸ hl)⟩
theorem Kept.of_own {l : List TypeId} {w w' : World} {base : Nat} {e : TypeId} {size n : Nat} {v : Value} {xs : List Value} (hg : w.grownBy w' v.ownBlock) (ho : w.ownsRow base e size v n xs) (he : e ∉ l) : Kept l w w' :=
  Kept.of_grown hg fun g hgo => by
    obtain ⟨_, cur, h⟩ := owns_typed ho g hgo
    exact ⟨cur, e, _, h, he⟩
theorem Kept.trans {l : List TypeId} {w w' w'' : World} (h : Kept l w w') (k : Kept l w' w'') : Kept l w w'' :=
  ⟨Nat.le_trans h.1 k.1, fun b cs t fr hb hl => by
    have h1 := h.2 b cs t fr hb hl
    rw [← h1]
    exact k.2 b cs t fr (h1.trans hb) hl⟩
theorem Kept.set {l : List TypeId} {w : World} {b : Nat} {cs : Array Value} {t : TypeId} {fr : Nat × Nat} (hb : w.heap[b]? = some (Obj.cells cs t fr)) (ht : t ∉ l) (o : Nat) (u : Value) : Kept l w (w.setCell ⟨b, o, none⟩ u) :=
  ⟨by simp, fun b' cs' t' fr' hb' hl => Below.heap_setCell w ⟨b, o, none⟩ u b' fun e => by
    subst e
    rw [hb] at hb'
    injection hb' with h1
    injection h1 with _ h1 _
    exact ht (h1 ▸ hl)⟩
/-! ### A box of the call's own, whole -/
def TBox (w : World) (b : Nat) (t : TypeId) (cs : Array Value) : Prop := w.heap[b]? = some (Obj.cells cs t (0, 0))
theorem TBox.new (w : World) (cs : Array Value) (t : TypeId) : TBox (w.alloc (.cells cs t)) w.heap.size t cs := heap_alloc_new _ _
theorem TBox.lt {w : World} {b : Nat} {t : TypeId} {cs : Array Value} (h : TBox w b t cs) : b < w.heap.size := (Array.getElem?_eq_some_iff.1 h).1
theorem TBox.cell {w : World} {b : Nat} {t : TypeId} {cs : Array Value} (h : TBox w b t cs) (i : Nat) : w.cell? ⟨b, i, none⟩ = cs[i]? := cell_of_row w b i _ _ _ h
theorem TBox.frozen {w : World} {b : Nat} {t : TypeId} {cs : Array Value} (h : TBox w b t cs) (i : Nat) : w.frozen? ⟨b, i, none⟩ = false := by
  unfold World.frozen?
  simp only [show w.heap[b]? = some (Obj.cells cs t (0, 0)) from h]
  simp
theorem TBox.mono {w w' : World} {b : Nat} {t : TypeId} {cs : Array Value} (h : TBox w b t cs) (hb : Below w.heap.size w w') : TBox w' b t cs := (hb.block b h.lt).trans h
theorem TBox.grown {w w' : World} {b : Nat} {t : TypeId} {cs : Array Value} {row : Option Nat} (h : TBox w b t cs) (hg : w.grownBy w' row) (hne : some b ≠ row) : TBox w' b t cs := (hg.block b h.lt hne).trans h
theorem TBox.set {w : World} {b : Nat} {t : TypeId} {cs : Array Value} (h : TBox w b t cs) (o : Nat) (u : Value) : TBox (w.setCell ⟨b, o, none⟩ u) b t (cs.setIfInBounds o u) := by
  unfold TBox at *
  unfold World.setCell
  simp [Array.getElem?_modify, h]
theorem TBox.other {w : World} {b b' : Nat} {t : TypeId} {cs : Array Value} (h : TBox w b t cs) (hne : b' ≠ b) (o : Nat) (u : Value) : TBox (w.setCell ⟨b', o, none⟩ u) b t cs :=
  (Below.heap_setCell w ⟨b', o, none⟩ u b fun e => hne e.symm).trans h
theorem owns_set {w : World} {base : Nat} {e : TypeId} {size n : Nat} {v : Value} {xs : List Value} (h : w.ownsRow base e size v n xs) {b : Nat} (hb : b < base) (o : Nat) (u : Value) : (w.setCell ⟨b, o, none⟩ u).ownsRow base e size v n xs :=
  ⟨h.1, h.2.imp id fun ⟨g, cap, cur, h1, h2, h3, h4⟩ => ⟨g, cap, cur, h1, h2, (Below.heap_setCell w ⟨b, o, none⟩ u g (by show g ≠ b; omega)).trans h3, h4⟩⟩
/-! ### Rows that know the type of their block -/
def RowK (w : World) (A : Option Addr) (T : TypeId) (xs : List Value) : Prop := xs = [] ∨ ∃ b o cur fr, A = some ⟨b, o, none⟩ ∧ w.heap[b]? = some (Obj.cells cur T fr) ∧ ∀ j v, xs[j]? = some v → cur[o + j]? = some v
theorem RowK.row {w : World} {A : Option Addr} {T : TypeId} {xs : List Value} (h : RowK w A T xs) : RowAt w A xs :=
  h.imp id fun ⟨b, o, cur, fr, h1, h2, h3⟩ => ⟨b, o, h1, (Array.getElem?_eq_some_iff.1 h2).1, fun j v hj => (cell_of_row w b _ _ _ _ h2).trans (h3 j v hj)⟩
theorem RowK.kept {l : List TypeId} {w w' : World} {A : Option Addr} {T : TypeId} {xs : List Value} (h : RowK w A T xs) (hk : Kept l w w') (ht : T ∈ l) : RowK w' A T xs :=
  h.imp id fun ⟨b, o, cur, fr, h1, h2, h3⟩ => ⟨b, o, cur, fr, h1, (hk.2 b cur T fr h2 ht).trans h2, h3⟩
theorem RowK.mono {w w' : World} {A : Option Addr} {T : TypeId} {xs : List Value} (h : RowK w A T xs) (hb : Below w.heap.size w w') : RowK w' A T xs := h.kept (Kept.of_below (l := [T]) hb) (by simp)
theorem RowK.own {w : World} {base : Nat} {T : TypeId} {size n : Nat} {v : Value} {xs : List Value} (h : w.ownsRow base T size v n xs) : ∃ A c, v = .slice A n c ∧ RowK w A T xs := by
  rcases h.2 with ⟨rfl, rfl⟩ | ⟨g, cap, cur, rfl, _, h3, _, _, _, h6⟩
  · exact ⟨none, 0, rfl, .inl (List.eq_nil_of_length_eq_zero (by rw [h.1, Nat.zero_mul]))⟩
  · refine ⟨_, cap, rfl, .inr ⟨g, 0, cur, _, rfl, h3, fun j u hj => ?_⟩⟩
    rw [← h6, List.getElem?_take] at hj
    split at hj
    · rw [Nat.zero_add]
      simpa using hj
    · cases hj
theorem AtHand.rowK {N : Nat} {e : TypeId} {size n : Nat} {xs : List Value} {w : World} {v : Value} (h : AtHand N e size n xs w v) : ∃ A c, v = .slice A n c ∧ RowK w A e xs := by
  rcases h with ⟨rfl, rfl, g, rfl⟩ | ⟨_, h⟩
  · exact ⟨_, 0, rfl, .inl rfl⟩
  · exact RowK.own h
/-! ### Worlds and towns that have been copied -/
/-- the rows of the first k wells of a world -/
def WdRows (w : World) (x : Wd) (k : Nat) (vs : List Value) : Prop := vs.length = k ∧ ∀ j u, vs[j]? = some u → ∃ A c, u = .slice A (x.len j) c ∧ RowK w A 3 (intL (x.fall j) (x.len j)) ∧ x.len j ≤ 9223372036854775807
theorem WdRows.kept {l : List TypeId} {w w' : World} {x : Wd} {k : Nat} {vs : List Value} (h : WdRows w x k vs) (hk : Kept l w w') (ht : 3 ∈ l) : WdRows w' x k vs :=
  ⟨h.1, fun j u hj => by
    obtain ⟨A, c, h1, h2, h3⟩ := h.2 j u hj
    exact ⟨A, c, h1, h2.kept hk ht, h3⟩⟩
theorem WdRows.snoc {w : World} {x : Wd} {k : Nat} {vs : List Value} {A : Option Addr} {c : Nat} (h : WdRows w x k vs) (h2 : RowK w A 3 (intL (x.fall k) (x.len k))) (h3 : x.len k ≤ 9223372036854775807) : WdRows w x (k + 1) (vs ++ [.slice A (x.len k) c]) :=
  ⟨by rw [List.length_append, h.1]; rfl, fun j u hj => by
    rcases Nat.lt_or_ge j vs.length with hlt | hge
    · rw [List.getElem?_append_left hlt] at hj
      exact h.2 j u hj
    · rw [List.getElem?_append_right hge] at hj
      have hl := h.1
      obtain rfl : j = k := by
        have := (List.getElem?_eq_some_iff.1 hj).1
        simp only [List.length_cons, List.length_nil] at this
        omega
      rw [hl, Nat.sub_self] at hj
      injection hj with hj
      exact ⟨A, c, hj.symm, h2, h3⟩⟩
/-- a world, as a value: its rows -/
def WdK (w : World) (v : Value) (x : Wd) : Prop := ∃ A c vs, v = .slice A x.n c ∧ RowK w A 23 vs ∧ WdRows w x x.n vs
theorem WdK.kept {l : List TypeId} {w w' : World} {v : Value} {x : Wd} (h : WdK w v x) (hk : Kept l w w') (h1 : 3 ∈ l) (h2 : 23 ∈ l) : WdK w' v x := by
  obtain ⟨A, c, vs, e, hr, hv⟩ := h
  exact ⟨A, c, vs, e, hr.kept hk h2, hv.kept hk h1⟩
theorem WdK.mono {w w' : World} {v : Value} {x : Wd} (h : WdK w v x) (hb : Below w.heap.size w w') : WdK w' v x := h.kept (Kept.of_below (l := [3, 23]) hb) (by simp) (by simp)
theorem WdK.rows {w : World} {v : Value} {x : Wd} (h : WdK w v x) : ∃ A c, v = .slice A x.n c ∧ RowsAt w A x := by
  obtain ⟨A, c, vs, e, hr, hl, hv⟩ := h
  refine ⟨A, c, e, ?_⟩
  rcases Nat.eq_zero_or_pos x.n with h0 | h0
  · exact .inl h0
  · rcases hr.row with h1 | ⟨b, o, rfl, hlt, hc⟩
    · rw [h1] at hl
      simp at hl
      omega
    · refine .inr ⟨b, o, rfl, hlt, fun k hk => ?_⟩
      obtain ⟨u, hu⟩ : ∃ u, vs[k]? = some u := ⟨_, List.getElem?_eq_getElem (by rw [hl]; exact hk)⟩
      obtain ⟨A', c', rfl, h2, h3⟩ := hv k u hu
      exact ⟨A', c', hc k _ hu, intsAt_row.2 h2.row, h3⟩
/-- the first n worlds, as values -/
def WsRows (w : World) (f : Nat → Wd) (n : Nat) (us : List Value) : Prop := us.length = n ∧ ∀ i u, us[i]? = some u → WdK w u (f i) ∧ (f i).n ≤ 9223372036854775807
theorem WsRows.kept {l : List TypeId} {w w' : World} {f : Nat → Wd} {n : Nat} {us : List Value} (h : WsRows w f n us) (hk : Kept l w w') (h1 : 3 ∈ l) (h2 : 23 ∈ l) : WsRows w' f n us :=
  ⟨h.1, fun i u hi => ⟨(h.2 i u hi).1.kept hk h1 h2, (h.2 i u hi).2⟩⟩
theorem WsRows.mono {w w' : World} {f : Nat → Wd} {n : Nat} {us : List Value} (h : WsRows w f n us) (hb : Below w.heap.size w w') : WsRows w' f n us := h.kept (Kept.of_below (l := [3, 23]) hb) (by simp) (by simp)
theorem WsRows.snoc {w : World} {f : Nat → Wd} {n : Nat} {us : List Value} {v : Value} (h : WsRows w f n us) (hv : WdK w v (f n)) (hn : (f n).n ≤ 9223372036854775807) : WsRows w f (n + 1) (us ++ [v]) :=
  ⟨by rw [List.length_append, h.1]; rfl, fun i u hi => by
    rcases Nat.lt_or_ge i us.length with hlt | hge
    · rw [List.getElem?_append_left hlt] at hi
      exact h.2 i u hi
    · rw [List.getElem?_append_right hge] at hi
      have hl := h.1
      obtain rfl : i = n := by
        have := (List.getElem?_eq_some_iff.1 hi).1
        simp only [List.length_cons, List.length_nil] at this
        omega
      rw [hl, Nat.sub_self] at hi
      injection hi with hi
      exact ⟨hi ▸ hv, hn⟩⟩
/-- the cells of facts -/
def factL (f : Nat → Fact) : Nat → List Value := catL fun i => [.int .i64 (f i).from_, .int .i64 (f i).many, .int .i64 (f i).to_, .int .i64 (f i).low, .int .i64 (f i).high]
theorem factL_len (f : Nat → Fact) (n : Nat) : (factL f n).length = n * 5 := by unfold factL; exact catL_len (s := 5) (fun _ => rfl) n
theorem factsAt_row {w : World} {A : Option Addr} {n : Nat} {f : Nat → Fact} (h : RowAt w A (factL f n)) : FactsAt w A n f := by
  rcases Nat.eq_zero_or_pos n with h0 | h0
  · exact .inl h0
  rcases h with h | ⟨b, o, rfl, hlt, hc⟩
  · exact .inl (catL_nil (s := 5) (fun _ => rfl) (by decide) h)
  · have hg := fun (i j : Nat) (hi : i < n) (hj : j < 5) => catL_get (f := fun i => [.int .i64 (f i).from_, .int .i64 (f i).many, .int .i64 (f i).to_, .int .i64 (f i).low, .int .i64 (f i).high]) (s := 5) (fun _ => rfl) hj n hi
    exact .inr ⟨b, o, rfl, hlt, fun i hi => ⟨by simpa using hc (i * 5 + 0) _ (hg i 0 hi (by decide)), hc (i * 5 + 1) _ (hg i 1 hi (by decide)), hc (i * 5 + 2) _ (hg i 2 hi (by decide)), hc (i * 5 + 3) _ (hg i 3 hi (by decide)), hc (i * 5 + 4) _ (hg i 4 hi (by decide))⟩⟩
theorem factsAt_iff {w : World} {A : Option Addr} {n : Nat} {f : Nat → Fact} (h : FactsAt w A n f) : RowAt w A (factL f n) := by
  rcases h with h | ⟨b, o, rfl, hlt, hc⟩
  · subst h; exact .inl rfl
  · refine .inr ⟨b, o, rfl, hlt, fun k v hv => ?_⟩
    obtain ⟨i, j, hi, hj, rfl, e⟩ := catL_inv (s := 5) (fun _ => rfl) n hv
    obtain ⟨h0, h1, h2, h3, h4⟩ := hc i hi
    match j, hj, e with
    | 0, _, e => simp at e; subst e; exact h0
    | 1, _, e => simp at e; subst e; exact h1
    | 2, _, e => simp at e; subst e; exact h2
    | 3, _, e => simp at e; subst e; exact h3
    | 4, _, e => simp at e; subst e; exact h4
/-- a town of the call's own -/
structure CopyAt (w : World) (base : Nat) (vW vF : Value) (t : Qt) : Prop where
  worlds : ∃ us, w.ownsRow base 60 1 vW t.nw us ∧ WsRows w t.world t.nw us
  facts : w.ownsRow base 63 5 vF t.nf (factL t.fact t.nf)
theorem CopyAt.mono {w w' : World} {base : Nat} {vW vF : Value} {t : Qt} (h : CopyAt w base vW vF t) (hb : Below w.heap.size w w') : CopyAt w' base vW vF t := by
  obtain ⟨⟨us, h1, h2⟩, h3⟩ := h
  exact ⟨⟨us, owns_below h1 hb, h2.mono hb⟩, owns_below h3 hb⟩
theorem CopyAt.lower {w : World} {base base' : Nat} {vW vF : Value} {t : Qt} (h : CopyAt w base vW vF t) (hb : base' ≤ base) : CopyAt w base' vW vF t := by
  obtain ⟨⟨us, h1, h2⟩, h3⟩ := h
  exact ⟨⟨us, owns_lower h1 hb, h2⟩, owns_lower h3 hb⟩
theorem CopyAt.qat {w : World} {base : Nat} {vW vF : Value} {t : Qt} (h : CopyAt w base vW vF t) : ∃ Aw cw Af cf, vW = .slice Aw t.nw cw ∧ vF = .slice Af t.nf cf ∧ QAt w Aw Af t := by
  obtain ⟨⟨us, h1, h2, h3⟩, h4⟩ := h
  obtain ⟨Aw, cw, rfl, hr⟩ := RowK.own h1
  obtain ⟨Af, cf, rfl, hf⟩ := RowK.own h4
  refine ⟨Aw, cw, Af, cf, rfl, rfl, ?_, factsAt_row hf.row⟩
  rcases Nat.eq_zero_or_pos t.nw with h0 | h0
  · exact .inl h0
  · rcases hr.row with h5 | ⟨b, o, rfl, hlt, hc⟩
    · rw [h5] at h2
      simp at h2
      omega
    · refine .inr ⟨b, o, rfl, hlt, fun i hi => ?_⟩
      obtain ⟨u, hu⟩ : ∃ u, us[i]? = some u := ⟨_, List.getElem?_eq_getElem (by rw [h2]; exact hi)⟩
      obtain ⟨hw, hn⟩ := h3 i u hu
      obtain ⟨A', c', rfl, h6⟩ := hw.rows
      exact ⟨A', c', hc i _ hu, h6, hn⟩
end Go.Proofs.YthnojgdckkdcgaaDoor

namespace Go.Proofs.YthnojgdckkdcgaaDoor
open Go.RowKit Go.Sort
/-- 'append([]T{}, xs...)' at a step of a region, whatever fits -/
theorem stir_copy2 {P : Program} {o : Oper} {a : Act} (w : World) (s x : Operand) (t : TypeId) (hop : o.op = Op.call { callee := Callee.builtin Builtin.append, args := #[s, x], argTypes := #[t, t] })
    (e : TypeId) (z : Value) (size bytes : Nat) (hinfo : (P.info? e).map (fun i => (i.zero, i.size, i.bytes)) = some (some z, size, bytes)) (ht : P.underlying t = some (.slice e)) (hzs : z.cells.size = size) (hsz : 0 < size)
    (ad : Nat) (A : Option Addr) (m c : Nat) (L : List Value) (hs : a.eval s = .slice (some ⟨ad, 0, none⟩) 0 0) (hx : a.eval x = .slice A m c) (hl : L.length = m * size) (hr : RowAt w A L) (h63 : m ≤ maxLen) (hby : m * bytes ≤ 140737488355328) (N : Nat) (hN : N ≤ w.heap.size) :
    Oper.stirAt P o a w Newer (fun w' v => ShapeOf m v ∧ AtHand N e size m L w' v) := by
  obtain ⟨i0, hi, iz0, iz1, iz2⟩ := info_parts hinfo
  have hbytes : (0 + m) * bytes ≤ 140737488355328 := by rw [Nat.zero_add]; exact hby
  rcases Nat.eq_zero_or_pos m with h0 | h0
  · subst h0
    obtain rfl : L = [] := List.eq_nil_of_length_eq_zero (by simpa using hl)
    have hrun : (Builtin.append_ #[t, t] o.type #[.slice (some ⟨ad, 0, none⟩) 0 0, .slice A 0 c]).run P w = .ok (.slice (some ⟨ad, 0, none⟩) 0 0) w := by
      cases A with
      | none => simp [Builtin.append_, run_underlying ht, sizeOf, typeInfo, hi, Builtin.lenOf, Builtin.firstCells, storeCells]
      | some a =>
        have hfc := run_firstCells_some (P := P) w i0.size 0 a 0 c [] (by simp) (fun j u h => by simp at h)
        simp [Builtin.append_, run_underlying ht, sizeOf, typeInfo, hi, Builtin.lenOf, hfc, storeCells]
    unfold Oper.stirAt
    simp only [execOp, hop, resolve, invoke, builtin, List.map_toArray, List.map_cons, List.map_nil, hs, hx, hrun, Result.andThen, Sem.run_bind, Sem.run_pure, Oper.stirUpon]
    exact ⟨Below.refl _ _, ⟨_, _, rfl⟩, .inl ⟨rfl, rfl, _, rfl⟩⟩
  · rcases hr with hr | ⟨b, o', rfl, hlt, hc⟩
    · rw [hr] at hl
      have := Nat.mul_pos h0 hsz
      simp only [List.length_nil] at hl
      omega
    · obtain ⟨v', w', hrun, hown, hg⟩ := run_append_arg_grows (P := P) w t o.type e i0 z size bytes ht hi iz0 iz1 iz2 hzs hsz ⟨ad, 0, none⟩ 0 0 [] (by simp) (fun j u h => by simp at h) ⟨b, o', none⟩ m c L hl (fun j u h => by
        rw [show (⟨b, o', none⟩ : Addr).add j = ⟨b, o' + j, none⟩ from by unfold Addr.add; split <;> simp_all]; exact hc j u h) (by omega) (by omega) hbytes
      simp only [List.nil_append, Nat.zero_add] at hown
      obtain ⟨g, cap, rfl⟩ := owns_form hown h0
      unfold Oper.stirAt
      simp only [execOp, hop, resolve, invoke, builtin, List.map_toArray, List.map_cons, List.map_nil, hs, hx, hrun, Result.andThen, Sem.run_bind, Sem.run_pure, Oper.stirUpon]
      exact ⟨below_grown hg, ⟨_, _, rfl⟩, .inr ⟨h0, owns_lower hown hN⟩⟩
/-- 'append(out, xs...)' of a slice of the call's own, as the one operation of a region -/
theorem stir_own {P : Program} {o : Oper} {a : Act} {w : World} {R : World → Value → Prop} (s x : Operand) (t : TypeId) (hop : o.op = Op.call { callee := Callee.builtin Builtin.append, args := #[s, x], argTypes := #[t, t] })
    (base : Nat) (e : TypeId) (z : Value) (size bytes : Nat) (hinfo : (P.info? e).map (fun i => (i.zero, i.size, i.bytes)) = some (some z, size, bytes)) (ht : P.underlying t = some (.slice e)) (hzs : z.cells.size = size) (hsz : 0 < size)
    (v : Value) (n : Nat) (xs : List Value) (hs : a.eval s = v) (hown : w.ownsRow base e size v n xs) (ad : Addr) (m c : Nat) (news : List Value) (hx : a.eval x = .slice (some ad) m c) (hl : news.length = m * size) (hnews : ∀ j u, news[j]? = some u → w.cell? (ad.add j) = some u) (h1 : ∀ u ∈ news, u.oneCell' = true)
    (h63 : n + m ≤ maxLen) (hbytes : (n + m) * bytes ≤ 140737488355328) (hbase : base ≤ w.heap.size)
    (h : ∀ v' w', w'.ownsRow base e size v' (n + m) (xs ++ news) → w.grownBy w' v.ownBlock → R w' v') : Oper.stirAt P o a w (fun _ _ => True) R := by
  obtain ⟨i0, hi, iz0, iz1, iz2⟩ := info_parts hinfo
  obtain ⟨v', w', hrun, h2, h3, _⟩ := run_append_own (P := P) w base t o.type e i0 z size bytes ht hi iz0 iz1 iz2 hzs hsz v n xs hown ad m c news hl hnews h1 h63 hbytes hbase
  unfold Oper.stirAt
  simp only [execOp, hop, resolve, invoke, builtin, List.map_toArray, List.map_cons, List.map_nil, hs, hx, hrun, Result.andThen, Sem.run_bind, Sem.run_pure, Oper.stirUpon]
  exact ⟨trivial, h v' w' h2 h3⟩
/-- what fits into memory -/
def Wd.Fits (x : Wd) : Prop := x.n * 24 ≤ 140737488351232 ∧ ∀ k, k < x.n → x.len k * 8 ≤ 140737488351232
def Qt.Fits (t : Qt) : Prop := t.nw * 24 ≤ 140737488351232 ∧ t.nf * 40 ≤ 140737488351232 ∧ ∀ i, i < t.nw → (t.world i).Fits
theorem Qt.Fits.small {t : Qt} (h : t.Fits) : t.Small :=
  ⟨by have := h.1; omega, by have := h.2.1; omega, fun i hi k hk => by have := (h.2.2 i hi).2 k hk; omega⟩
/-- a new slice of one cell that holds a row of numbers -/
def one1 (v : Value) : Prop := ∃ b, v = .slice (some ⟨b, 0, none⟩) 1 1
def rowIn (m : Nat) (xs : List Value) (w : World) (v : Value) : Prop := ∀ b, v = .slice (some ⟨b, 0, none⟩) 1 1 → ∃ A c, w.cell? ⟨b, 0, none⟩ = some (.slice A m c) ∧ RowK w A 3 xs
theorem rowIn_mono {m : Nat} {xs : List Value} {w w' : World} {v : Value} (hb : Below w.heap.size w w') (h : rowIn m xs w v) : rowIn m xs w' v := fun b e => by
  obtain ⟨A, c, h1, h2⟩ := h b e
  exact ⟨A, c, (hb.cell (World.block_lt_of_cell? w _ h1)).trans h1, h2.mono hb⟩
theorem infoRow : (Tryd.prog.info? 23).map (fun i => (i.zero, i.size, i.bytes)) = some (some (.slice none 0 0), 1, 24) := by kernel_rfl
theorem news1 {w : World} {b : Nat} {u : Value} (h : w.cell? ⟨b, 0, none⟩ = some u) : ∀ j v, [u][j]? = some v → w.cell? ((⟨b, 0, none⟩ : Addr).add j) = some v := by
  intro j v hj
  match j, hj with
  | 0, hj => simp at hj; subst hj; simpa [Addr.add] using h
theorem one1c {u : Value} (h : u.oneCell' = true) : ∀ v ∈ [u], v.oneCell' = true := by
  intro v hv
  rw [List.mem_singleton.1 hv]
  exact h
set_option maxHeartbeats 4000000 in
set_option maxRecDepth 100000 in
theorem copyWorld5_any (A : Option Addr) (c : Nat) (x : Wd) (w : World) (hf : x.Fits) (hX : RowsAt w A x) :
    Calls Tryd.prog 62 #[.agg #[.slice A x.n c]] w fun e w' => (∃ v vs, e = .returned (.agg #[v]) ∧ w'.ownsRow w.heap.size 23 1 v x.n vs ∧ WdRows w' x x.n vs) ∧ Below w.heap.size w w' := by
  have hb2 := bAlloc (bAlloc (Below.refl w.heap.size w) (.cells #[.slice A x.n c] 60)) (.cells #[.slice none 0 0] 60)
  have HX := Lib.hid hX
  have HB := Lib.hid hb2
  have HF := Lib.hid hf
  have hn63 : x.n ≤ 9223372036854775807 := by have := hf.1; omega
  clear hX hb2 hf
  go_enter Tryd.func62, Tryd.ntmps62
  go_wp2_with fail
  go_loopw [4] (fun s wr => ∃ (k : Nat) (V : Value) (vs : List Value), k ≤ x.n ∧ s = .int .i64 k ∧ TBox wr (w.heap.size + 1 + 1) 60 #[V] ∧ wr.ownsRow (w.heap.size + 3) 23 1 V k vs ∧ WdRows wr x k vs ∧ Below (w.heap.size + 2) ((w.alloc (.cells #[.slice A x.n c] 60)).alloc (.cells #[.slice none 0 0] 60)) wr) (fun s _ => x.n - (intOf s).toNat)
  case atStart => exact ⟨0, .slice none 0 0, [], Nat.zero_le _, rfl, by have := TBox.new ((w.alloc (.cells #[.slice A x.n c] 60)).alloc (.cells #[.slice none 0 0] 60)) #[.slice none 0 0] 60; simpa using this, World.ownsRow_nil _ _ _ _, ⟨rfl, fun j u h => by simp at h⟩, by have := bAlloc (Below.refl ((w.alloc (.cells #[.slice A x.n c] 60)).alloc (.cells #[.slice none 0 0] 60)).heap.size ((w.alloc (.cells #[.slice A x.n c] 60)).alloc (.cells #[.slice none 0 0] 60))) (.cells #[.slice none 0 0] 60); simpa using this⟩
  case round =>
    obtain ⟨k, V, vs, hk, rfl, hbx, hown, hrows, hbel⟩ := hrel
    have HT := Lib.hid hbx
    have HO := Lib.hid hown
    have HR := Lib.hid hrows
    have HL := Lib.hid hbel
    have HW := Lib.hid (bTrans HB.out (by simpa using hbel))
    have p0 := (hbel.cell (p := ⟨w.heap.size, 0, none⟩) (by show w.heap.size < w.heap.size + 2; omega)).trans (show _ = some (.slice A x.n c) by simp [go_sem])
    have p1 : wr.cell? ⟨w.heap.size + 1 + 1, 0, none⟩ = some V := hbx.cell 0
    have p2 := hbx.frozen 0
    have hz : w.heap.size + 1 + 1 < wr.heap.size := hbx.lt
    have hy : w.heap.size < wr.heap.size := by omega
    clear hbx hown hrows hbel
    by_cases hlt : k < x.n
    · rcases HX.out.mono HW.out with h0 | ⟨b, o, hA, hb, hc⟩
      · omega
      obtain ⟨A', c', c0, hrow, hlen⟩ := hc k hlt
      subst hA
      obtain ⟨m, hm⟩ : ∃ m, x.len k = m := ⟨_, rfl⟩
      rw [hm] at c0 hrow hlen
      have HM := Lib.hid hm
      have HROW := Lib.hid (intsAt_row.1 hrow)
      have HFM := Lib.hid (show m * 8 ≤ 140737488351232 by have := HF.out.2 k hlt; rw [hm] at this; exact this)
      have k1 : (k : Int) < (x.n : Int) := by omega
      have k0 : (0 : Int) ≤ (k : Int) := by omega
      clear hc hrow hm
      go_wp2_with fail
      refine wp_region_pin 10 [.const (.pointer (some ⟨w.heap.size + 1 + 1, 0, none⟩)), .const V, .held emptyV anyR, .const (.pointer (some ⟨w.heap.size, 0, none⟩)), .const (.slice (some ⟨b, o, none⟩) x.n c), .const (.int .i64 k), .const (.pointer (some ⟨b, o + k, none⟩)), .const (.slice A' m c'), .held (ShapeOf m) (AtHand wr.heap.size 3 1 m (intL (x.fall k) m)), .held one1 (rowIn m (intL (x.fall k) m))]
        [.pointer (some ⟨w.heap.size + 1 + 1, 0, none⟩)] (by kernel_rfl) (by kernel_rfl) rfl ⟨trivial, trivial, anyG, trivial, trivial, trivial, trivial, trivial, shapeG _ _ _ _ _, ⟨⟨_, 0, rfl⟩, fun _ _ _ hb h => rowIn_mono hb h⟩, trivial⟩ (crossAll_no _ _ _ _ trivial) rfl rfl (fun j u hj => ?_) ?_
      · match j, hj with
        | 0, hj =>
          obtain rfl : Value.pointer (some ⟨w.heap.size + 1 + 1, 0, none⟩) = u := by simpa using hj
          exact ⟨_, rfl, rfl, fun w' => by go_simp⟩
      iterate 2 refine wpStir_const (by go_simp) ?_
      refine wpStir_held rfl (fun w' hb hd => ?_) (fun v hv => ?_)
      · clear hd
        go_simp
        exact ⟨bAlloc (Below.refl _ _) _, ⟨_, rfl⟩, trivial⟩
      obtain ⟨b1, rfl⟩ := hv
      iterate 5 refine wpStir_const (by go_simp) ?_
      simp only [Act.put, List.setIfInBounds_toArray, List.set_cons_succ, List.set_cons_zero]
      refine wpStir_held rfl (fun w' hb hd => ?_) (fun v hv => ?_)
      · clear hd
        exact stir_copy2 w' (Operand.tmp 14) (Operand.tmp 19) 23 rfl 3 (.int .i64 0) 1 8 infoInt Tryd.underlying23 rfl (by decide) b1 A' m c' (intL (x.fall k) m) rfl rfl (by rw [intL_len, Nat.mul_one]) (HROW.out.mono hb) (by unfold maxLen; have := HFM.out; omega) (by have := HFM.out; omega) _ hb.size
      obtain ⟨b2, c2, rfl⟩ := hv
      refine wpStir_held rfl (fun w' hb hd => ?_) (fun v hv => ?_)
      · have h1 : AtHand wr.heap.size 3 1 m (intL (x.fall k) m) w' (.slice (some ⟨b2, 0, none⟩) m c2) := hd.1 (by kernel_rfl)
        clear hd
        obtain ⟨A3, c3, e3, h3⟩ := h1.rowK
        injection e3 with e3 _ e4
        subst e3 e4
        go_simp
        exact ⟨bAlloc (Below.refl _ _) _, ⟨_, rfl⟩, fun b' hb' => by
          obtain rfl : w'.heap.size = b' := by simpa using hb'
          exact ⟨some ⟨b2, 0, none⟩, c2, by simp [go_sem], h3.mono (bAlloc (Below.refl _ _) _)⟩⟩
      obtain ⟨b3, rfl⟩ := hv
      simp only [Act.put, List.setIfInBounds_toArray, List.set_cons_succ, List.set_cons_zero]
      refine wpStir_end (fun w5 hb5 hd => ?_)
      obtain ⟨A4, c4, h4, h5⟩ := hd.1 b3 rfl
      clear hd
      have HT5 := Lib.hid (HT.out.mono hb5)
      have HO5 := Lib.hid (owns_below HO.out hb5)
      have HR5 := Lib.hid (HR.out.kept (Kept.of_below (l := [3]) hb5) (by simp))
      have HK5 := Lib.hid h5
      have HL5 := Lib.hid (HL.out.trans (hb5.mono (by have := HT.out.lt; omega)))
      have HN5 := Lib.hid (show (k + 1) * 24 ≤ 140737488351232 by have := HF.out.1; omega)
      refine stir_own (Operand.tmp 13) (Operand.tmp 21) 58 rfl (w.heap.size + 3) 23 (.slice none 0 0) 1 24 infoRow Tryd.underlying58 rfl (by decide) V k vs rfl HO5.out ⟨b3, 0, none⟩ 1 1 [.slice A4 m c4] rfl rfl (news1 h4) (one1c rfl) (by unfold maxLen; have := HN5.out; omega) (by have := HN5.out; omega) (by have := HT5.out.lt; omega) (fun v' w6 hown6 hg6 => ?_)
      obtain ⟨A6, c6, rfl, _⟩ := RowK.own hown6
      have hnb : some (w.heap.size + 1 + 1) ≠ V.ownBlock := fun e => by have := HO5.out.lt _ e.symm; omega
      have HT6 := Lib.hid (HT5.out.grown hg6 hnb)
      have HR6 := Lib.hid (HR5.out.kept (Kept.of_own (l := [3]) hg6 HO5.out (by decide)) (by simp))
      have HK6 := Lib.hid (HK5.out.kept (Kept.of_own (l := [3]) hg6 HO5.out (by decide)) (by simp))
      have HL6 := Lib.hid (HL5.out.grown hg6 (by have := HT5.out.lt; omega) (fun q hq => by have := (HO5.out.lt q hq).1; omega))
      have HO6 := Lib.hid hown6
      have q1 : w6.cell? ⟨w.heap.size + 1 + 1, 0, none⟩ = some V := HT6.out.cell 0
      have q2 := HT6.out.frozen 0
      clear hown6 hg6 h4 h5 hb5 p0 p1 p2 c0 hnb
      simp only [putF, Act.put, List.setIfInBounds_toArray, List.set_cons_succ, List.set_cons_zero, List.drop_succ_cons, List.drop_zero]
      go_wp2_with fail
      go_roundw
      case rel =>
        have hk7 : Kept [3] w6 (w6.setCell ⟨w.heap.size + 1 + 1, 0, none⟩ (.slice A6 (k + 1) c6)) := Kept.set HT6.out (by decide) 0 (.slice A6 (k + 1) c6)
        have hs7 : WdRows (w6.setCell ⟨w.heap.size + 1 + 1, 0, none⟩ (.slice A6 (k + 1) c6)) x (k + 1) (vs ++ [.slice A4 m c4]) := by
          have := (HR6.out.kept hk7 (by simp)).snoc (A := A4) (c := c4) (by rw [HM.out]; exact HK6.out.kept hk7 (by simp)) (by rw [HM.out]; exact hlen)
          rw [HM.out] at this
          exact this
        refine ⟨k + 1, .slice A6 (k + 1) c6, _, by omega, ?_, HT6.out.set 0 (.slice A6 (k + 1) c6), owns_set HO6.out (by omega) 0 (.slice A6 (k + 1) c6), hs7, HL6.out.setCell (p := ⟨w.heap.size + 1 + 1, 0, none⟩) (by simp) (.slice A6 (k + 1) c6)⟩
        go_num
      case measure => simp [intOf]; omega
    · obtain rfl : k = x.n := by omega
      obtain ⟨A6, c6, rfl, _⟩ := RowK.own HO.out
      have r0 := HL.out.cell (p := ⟨w.heap.size + 1, 0, none⟩) (by show w.heap.size + 1 < w.heap.size + 2; omega)
      have r1 := HL.out.frozen (p := ⟨w.heap.size + 1, 0, none⟩) (by show w.heap.size + 1 < w.heap.size + 2; omega)
      simp [go_sem] at r0 r1
      have hy1 : w.heap.size + 1 < wr.heap.size := by omega
      go_wp2_with fail
      have hT1 : TBox wr (w.heap.size + 1) 60 #[.slice none 0 0] := (HL.out.block (w.heap.size + 1) (by omega)).trans (by have := TBox.new (w.alloc (.cells #[.slice A x.n c] 60)) #[.slice none 0 0] 60; simpa [TBox] using this)
      have hK1 : Kept [3] wr (wr.setCell ⟨w.heap.size + 1, 0, none⟩ (.slice A6 x.n c6)) := Kept.set hT1 (by decide) 0 _
      refine bodyPost_ret (v := .agg #[.slice A6 x.n c6]) (by simp [results, Tryd.results62, go_sem, *]) rfl ⟨⟨.slice A6 x.n c6, vs, rfl, owns_lower (owns_set HO.out (by omega) 0 _) (by omega), HR.out.kept hK1 (by simp)⟩, Below.setCell (p := ⟨w.heap.size + 1, 0, none⟩) HW.out (by simp) (.slice A6 x.n c6)⟩
end Go.Proofs.YthnojgdckkdcgaaDoor

namespace Go.Proofs.YthnojgdckkdcgaaDoor
open Go.RowKit Go.Sort Go.ChangeShapes Go.WideShapes Go.ChangeAt Go.Deep
theorem ownK : ownKnob Tryd.prog.godebug = none := by kernel_rfl
theorem laidOutP : laidOutB Tryd.prog = true := by kernel_rfl
section
variable {H : Type} {enc : TypeId × Value → H} {P : Program}
/-- what came in reads as before, if nothing of it has turned -/
theorem trodAll_stays (hl : laidOutB P = true) {W W' : World} {sp : Nat → Bool} (hb : Below W.heap.size W W') : ∀ {ts : List TypeId} {vs : List Value} {ds : List (DataW H)} {ps : List MemPlace},
    (∀ t ∈ ts, P.readableRec t = true ∧ t < P.types.size) → DataW.TrodAll enc P W 0 (fun _ => true) true ts vs ds ps → (∀ p ∈ ps, p.block < W.heap.size) → (∀ p ∈ ps, sp p.block = true) → DataW.TrodAll enc P W' 0 sp true ts vs ds ps
  | [], [], [], ps, _, h, _, _ => h
  | t :: ts, v :: vs, d :: ds, ps, ht, h, hlt, hsp => by
    obtain ⟨p, q, h1, h2, rfl⟩ := h
    exact ⟨p, q, WideElems.Trod_stays hl (ht t (by simp)).1 (ht t (by simp)).2 h1 (fun x hx => hb.same (hlt x (by simp [hx]))) (fun x hx => hsp x (by simp [hx])),
      trodAll_stays hl hb (fun u hu => ht u (by simp [hu])) h2 (fun x hx => hlt x (by simp [hx])) (fun x hx => hsp x (by simp [hx])), rfl⟩
  | [], [], _ :: _, _, _, h, _, _ => h.elim
  | [], _ :: _, _, _, _, h, _, _ => h.elim
  | _ :: _, [], _, _, _, h, _, _ => h.elim
  | _ :: _, _ :: _, [], _, _, h, _, _ => h.elim
/-- a law that has returned true, and has left all as it was -/
theorem post_law {f : Func} {s : ChangeSpec} {W W' : World} {args : Array Value} {ds : List (DataW H)} {before : List MemPlace} (hl : laidOutB P = true) (hv : s.vars = []) {tb : TypeId} (hbool : P.underlying tb = some .bool) (hres : f.resultTypes = #[tb])
    (hts : ∀ t ∈ f.params.toList, P.readableRec t = true ∧ t < P.types.size) (hfn : s.fn H (ds ++ []) = { results := [.lit (.bool true)], args := ds })
    (hW : DataW.Whole enc P f.params.toList s.vars false W args.toList ds [] before) (hb : Below W.heap.size W W') : s.post enc P f false true false false W args (.bool true) W' := by
  have hlt : ∀ p ∈ before, p.block < W.heap.size := fun p hp => hW.lt p hp
  obtain ⟨p, q, hA, hV, hpq, hz, hn⟩ := id hW
  rw [hv] at hV
  have hq : q = [] := hV
  subst hq
  rw [List.append_nil] at hpq
  subst hpq
  have hok : ∀ (j : Nat) (t : TypeId) (r : Value), f.resultTypes[j]? = some t → ((Value.bool true).resultList f.resultTypes.size)[j]? = some r → Value.okWide P W' .any 0 t r := ok_one hres rfl (okWide_bool_mk hbool _)
  have hbt : ∀ (b : Nat) (sp : Nat → Bool) (hd : Bool), DataW.TrodAll enc P W' b sp hd f.resultTypes.toList ((Value.bool true).resultList f.resultTypes.size) (s.fn H (ds ++ [])).results [] := fun b sp hd => by
    rw [hres, hfn]; exact trodAll_mk1 (shut_bool hbool _)
  have harg : ∀ sp : Nat → Bool, (∀ x ∈ before, sp x.block = true) → DataW.TrodAll enc P W' 0 sp true f.params.toList args.toList (s.fn H (ds ++ [])).args before := fun sp hsp => by
    rw [hfn]; exact trodAll_stays hl hb hts hA hlt hsp
  have hvar : ∀ sp : Nat → Bool, DataW.TrodVars enc P W' sp s.vars (s.fn H (ds ++ [])).vars [] := fun sp => by
    rw [hv, hfn]; exact rfl
  refine ⟨ds, [], before, [], before, [], hW, hbt _ _ _, harg _ (fun x hx => by simpa using hlt x hx), hvar _, World.keptBut_mono (fun x hx => ⟨hx, .inr (by simpa using hx)⟩) (hb.frame (· ∈ before)), fun _ => ?_⟩
  refine ⟨hok, _, _, [] ++ before, ⟨[] ++ before, [], trodAll_append (harg _ (fun _ _ => rfl)) (hbt _ _ _), hvar _, by simp, ?_, fun h => by cases h⟩, fun x hx _ => by simpa using hx⟩
  intro b off hp
  have hp' : MemPlace.cell b off ∈ before := by simpa using hp
  rw [hb.frozen (p := ⟨b, off, none⟩) (hlt _ hp')]
  exact hz b off hp'
end
def intAt (w : World) (p : Addr) : Int := match w.cell? p with | some (.int _ n) => n | _ => 0
theorem add_none (b o j : Nat) : (⟨b, o, none⟩ : Addr).add j = ⟨b, o + j, none⟩ := by unfold Addr.add; split <;> simp_all
section
variable {H : Type} {enc : TypeId × Value → H} {P : Program} {w : World} {base : Nat} {sp : Nat → Bool} {held : Bool}
/-- a slice that came in: its length, its capacity, its address -/
def SliceIn (A : Option Addr) (n c : Nat) : Prop := n ≤ c ∧ c ≤ 9223372036854775807 ∧ (A = none → n = 0 ∧ c = 0)
theorem ints_in {t e : TypeId} {fuel : Nat} {cs : List Value} {x : DataW H × List MemPlace} (ht : P.underlying t = some (.slice e)) (hi : P.underlying e = some (.int .i64)) (hc : P.cellsOf e = 1) (h : DataW.trod enc P w base sp held fuel t cs = some x) :
    ∃ A n c g, cs = [.slice A n c] ∧ IntsAt w A n g ∧ SliceIn A n c := by
  rcases open_slice1 ht hc h with ⟨h0, _⟩ | ⟨a, len, cap, m, n, V, D, Pl, hcs, hb, hl, hm, hmm, hx, hel⟩
  · exact ⟨none, 0, 0, fun _ => 0, h0, .inl rfl, Nat.le_refl _, by omega, fun _ => ⟨rfl, rfl⟩⟩
  · have hlm : len ≤ m := by rw [hmm]; split <;> omega
    have hin : SliceIn (some a) len cap := ⟨hl, by unfold maxLen at hm; exact hm, fun h => by cases h⟩
    rcases Nat.eq_zero_or_pos len with h0 | h0
    · subst h0; exact ⟨_, 0, cap, fun _ => 0, hcs, .inl rfl, hin⟩
    · have h1 := (hel 0 (by omega)).1
      have hs : a.spot = none := by simpa [Addr.add] using World.cell?_spot h1
      obtain ⟨b, o, s⟩ := a
      simp only at hs
      subst hs
      refine ⟨_, len, cap, fun i => intAt w ⟨b, o + i, none⟩, hcs, .inr ⟨b, o, rfl, World.block_lt_of_cell? w _ (by simpa [Addr.add] using h1), fun i hi' => ?_⟩, hin⟩
      obtain ⟨g1, g2⟩ := hel i (by omega)
      obtain ⟨k, hk, _⟩ := DataW.trod_int hi g2
      injection hk with hk
      rw [add_none, hk] at g1
      simp only [intAt, g1]

/-! ### What fits into memory -/
theorem wAll_mem {e : TypeId} {d : DataW H} {y : Nat} (hy : y ∈ d.weights P e) : ∀ {l : List (DataW H)}, d ∈ l → y ∈ DataW.weightsAll P e l
  | [], h => by cases h
  | x :: l, h => by
    unfold DataW.weightsAll
    rcases List.mem_cons.1 h with rfl | h
    · exact List.mem_append_left _ hy
    · exact List.mem_append_right _ (wAll_mem hy h)
theorem wEach_mem {y : Nat} : ∀ {ts : List TypeId} {ds : List (DataW H)} {j : Nat} {t : TypeId} {d : DataW H}, ts[j]? = some t → ds[j]? = some d → y ∈ d.weights P t → y ∈ DataW.weightsEach P ts ds
  | [], _, _, _, _, h, _, _ => by simp at h
  | _ :: _, [], _, _, _, _, h, _ => by simp at h
  | u :: ts, x :: ds, 0, t, d, h1, h2, hy => by
    obtain rfl : u = t := by simpa using h1
    obtain rfl : x = d := by simpa using h2
    unfold DataW.weightsEach
    exact List.mem_append_left _ hy
  | u :: ts, x :: ds, j + 1, t, d, h1, h2, hy => by
    unfold DataW.weightsEach
    exact List.mem_append_right _ (wEach_mem (j := j) (by simpa using h1) (by simpa using h2) hy)
/-- each slice of it takes at most so much -/
def Fit (P : Program) (t : TypeId) (d : DataW H) : Prop := ∀ y, y ∈ d.weights P t → y ≤ 140737488351232
theorem fit_arg {ts : List TypeId} {ds : List (DataW H)} (h : (DataW.weightsEach P ts ds).all (· ≤ reachBytes) = true) {j : Nat} {t : TypeId} {d : DataW H} (h1 : ts[j]? = some t) (h2 : ds[j]? = some d) : Fit P t d := fun y hy => by
  have := List.all_eq_true.1 h y (wEach_mem h1 h2 hy)
  exact (of_decide_eq_true this : y ≤ reachBytes)
theorem fit_slice {t e : TypeId} {len : Nat} {D : Nat → DataW H} {sp : List (DataW H)} (ht : P.underlying t = some (.slice e)) (h : Fit P t (.slice ((List.range len).map D) sp)) : len * P.bytesOf e ≤ 140737488351232 ∧ ∀ i, i < len → Fit P e (D i) := by
  have e1 : (DataW.slice ((List.range len).map D) sp).weights P t = (((List.range len).map D).length + sp.length) * P.bytesOf e :: (DataW.weightsAll P e ((List.range len).map D) ++ DataW.weightsAll P e sp) := by
    unfold DataW.weights
    rw [ht]
  unfold Fit at h
  rw [e1] at h
  constructor
  · have := h _ (List.mem_cons_self ..)
    rw [List.length_map, List.length_range, Nat.add_mul] at this
    omega
  · exact fun i hi y hy => h y (List.mem_cons_of_mem _ (List.mem_append_left _ (wAll_mem hy (List.mem_map.2 ⟨i, List.mem_range.2 hi, rfl⟩))))
theorem fit_part {t : TypeId} {fs : Array Field} {parts : List (DataW H)} (ht : P.underlying t = some (.struct fs)) (h : Fit P t (.agg parts)) {j : Nat} {f : Field} {d : DataW H} (h1 : fs[j]? = some f) (h2 : parts[j]? = some d) : Fit P f.type d := fun y hy => by
  refine h y ?_
  have e1 : (DataW.agg parts).weights P t = DataW.weightsEach P (fs.toList.map (·.type)) parts := by
    unfold DataW.weights
    rw [ht]
  rw [e1]
  exact wEach_mem (by simp [h1]) h2 hy
/-- numbers that came in -/
theorem ints_fit {t e : TypeId} {fuel : Nat} {cs : List Value} {x : DataW H × List MemPlace} (ht : P.underlying t = some (.slice e)) (hi : P.underlying e = some (.int .i64)) (hc : P.cellsOf e = 1) (hb : P.bytesOf e = 8) (hf : Fit P t x.1) (h : DataW.trod enc P w base sp held fuel t cs = some x) :
    ∃ A n c g, cs = [.slice A n c] ∧ IntsAt w A n g ∧ SliceIn A n c ∧ n * 8 ≤ 140737488351232 := by
  obtain ⟨A, n, c, g, h1, h2, h3⟩ := ints_in ht hi hc h
  refine ⟨A, n, c, g, h1, h2, h3, ?_⟩
  rcases open_slice ht h with ⟨h0, _⟩ | ⟨a, len, cap, m, n', D, Pl, hcs, _, _, _, _, hx, _⟩
  · rw [h0] at h1
    injection h1 with h1
    injection h1 with _ h1
    subst h1
    omega
  · rw [hcs] at h1
    injection h1 with h1
    injection h1 with _ h1
    subst h1
    rw [hx] at hf
    have := (fit_slice ht hf).1
    rwa [hb] at this
end
theorem int_wf {n : Int} (h : (Lit.int .i64 n).wf = true) : -9223372036854775808 ≤ n ∧ n ≤ 9223372036854775807 := by
  simp only [Lit.wf, Bool.and_eq_true, decide_eq_true_eq] at h
  exact h
section
variable {H : Type} {enc : TypeId × Value → H} {P : Program} {w : World} {base b0 : Nat} {r : Reach} {sp : Nat → Bool} {held : Bool}
end

/-! ### The table of math/bits that is listed -/
theorem gTab : Tryd.prog.globalNamed "math/bits.deBruijn64tab" = some 1 := by kernel_rfl
theorem tTab : (Tryd.prog.globals[1]?).map (·.type) = some 134 := by kernel_rfl
theorem bytes_in {H : Type} {enc : TypeId × Value → H} {P : Program} {w : World} {base : Nat} {sp : Nat → Bool} {held : Bool} {t e : TypeId} {n fuel : Nat} {cs : List Value} {x : DataW H × List MemPlace} (ht : P.underlying t = some (.array n e)) (he : P.underlying e = some (.int .u8)) (hc : P.cellsOf e = 1) (h : DataW.trod enc P w base sp held fuel t cs = some x) {ds : List (DataW H)} (hx : x.1 = .agg ds) {j : Nat} {v : Int} (hj : j < n) (hd : ds[j]? = some (.lit (.int .u8 v))) : cs[j]? = some (.int .u8 v) := by
  obtain ⟨xs, m, _, rfl, hlen, hl, hg⟩ := DataW.trod_array ht h
  simp only [DataW.agg.injEq] at hx
  subst hx
  have h1 := hg j hj
  rw [hc, Nat.mul_one] at h1
  obtain ⟨y, hy⟩ : ∃ y, xs[j]? = some y := ⟨_, List.getElem?_eq_getElem (by omega)⟩
  rw [hy] at h1
  obtain ⟨k, hk, rfl, _⟩ := DataW.trod_int he h1
  rw [List.getElem?_map, hy] at hd
  simp only [Option.map_some, Option.some.injEq, DataW.lit.injEq, Lit.int.injEq, true_and] at hd
  subst hd
  have h2 := congrArg (fun l : List Value => l[0]?) hk
  simp only [List.getElem?_cons_zero, List.getElem?_take, List.getElem?_drop, Nat.add_zero, Nat.zero_lt_one, if_true] at h2
  exact h2
theorem tab_of_laid {W : World} (h : laidMetH Tryd.prog [("math/bits.deBruijn32tab", Rows.laid_math_bits_deBruijn32tab), ("math/bits.deBruijn64tab", Rows.laid_math_bits_deBruijn64tab)] W) : TabAt W := by
  rw [MakeChecks.laidMetH_plain _ _ _ (by kernel_rfl)] at h
  obtain ⟨ps, ⟨g0, t0, cs0, f0, p0, q0, _, _, _, _, ⟨g1, t1, cs1, f1, p1, q1, hg1, ht1, hv1, hd1, _⟩, _⟩, _, _⟩ := h
  obtain rfl := Option.some.inj (gTab.symm.trans hg1)
  obtain rfl := Option.some.inj (tTab.symm.trans ht1)
  have hc : ∀ i, W.cell? ⟨1, i, none⟩ = cs1[i]? := fun i => World.var?_cell gTab hv1 i
  have key : ∀ (j : Nat) (v : Int), j < 64 → (match (Rows.laid_math_bits_deBruijn64tab : DataW Unit) with | .agg ds => ds[j]? | _ => none) = some (.lit (.int .u8 v)) → W.cell? ⟨1, j, none⟩ = some (.int .u8 v) := fun j v hj hd => by
    rw [hc j, ← Array.getElem?_toList]
    exact bytes_in Tryd.underlying134 Tryd.underlying5 (by kernel_rfl) hd1 rfl hj hd
  refine ⟨World.block_lt_of_cell? W ⟨1, 0, none⟩ (key 0 0 (by decide) rfl), fun j hj => ?_⟩
  match j, hj with
  | 0, _ => exact key 0 0 (by decide) rfl
  | 1, _ => exact key 1 1 (by decide) rfl
  | 2, _ => exact key 3 2 (by decide) rfl
  | 3, _ => exact key 7 3 (by decide) rfl
  | 4, _ => exact key 15 4 (by decide) rfl
  | 5, _ => exact key 31 5 (by decide) rfl
theorem door_met (os : Os) (args : Array Value) : laidMetH Tryd.prog [("math/bits.deBruijn32tab", Rows.laid_math_bits_deBruijn32tab), ("math/bits.deBruijn64tab", Rows.laid_math_bits_deBruijn64tab)] ((World.doorLaid Tryd.prog 400 os).forCall (fun _ _ => 0) ⟨#[], args, []⟩).memory :=
  laidMetH_of_parts3 (fuel := 8) (laidMet_of_run' 8 (by kernel_rfl) (by kernel_rfl)) (by kernel_rfl) (by kernel_rfl)
end Go.Proofs.YthnojgdckkdcgaaDoor

