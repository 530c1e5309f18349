/- Parts joined: what all claims of this seat need. -/
import Derived.Test.YtifkjnmnflhnoaaGreatDoorNBE
import Derived.RangeFuncNested
import Derived.RangeFuncBound
import Derived.RangeFuncCalls
import Derived.RangeFuncLeaves
import Derived.Shelf.Abstract
import Derived.Shelf.RegionOpen
import Derived.OwnWalkIn
import Derived.TacticsInMore
import Derived.LoopNIn
import Derived.LoopIn
import Derived.Test.YtifkjnmnflhnoaaGreatDoorNBB
set_option linter.unusedSimpArgs false
set_option linter.unusedVariables false
namespace Go.Proofs.YtifkjnmnflhnoaaGreatDoor
open Go.RowKit Go.Sort
end Go.Proofs.YtifkjnmnflhnoaaGreatDoor

namespace Go.Proofs.YtifkjnmnflhnoaaGreatDoor
open Go.RowKit Go.Sort
end Go.Proofs.YtifkjnmnflhnoaaGreatDoor

namespace Go.Proofs.YtifkjnmnflhnoaaGreatDoor
open Go.RowKit Go.Sort
theorem OwnL.cap {w : World} {base : Nat} {v : Value} {l : List Int} (h : OwnL w base v l) (h0 : 0 < l.length) : ∃ g c, v = .slice (some ⟨g, 0, none⟩) l.length c ∧ l.length ≤ c ∧ c ≤ 9223372036854775807 := by
  rcases h.2 with ⟨rfl, h1⟩ | ⟨g, cap, cur, rfl, _, _, h3, h4, _⟩
  · omega
  · exact ⟨g, _, rfl, h3, by unfold maxLen at h4; omega⟩
end Go.Proofs.YtifkjnmnflhnoaaGreatDoor

namespace Go.Proofs.YtifkjnmnflhnoaaGreatDoor
open Go.RowKit Go.Sort Go.Shelf
section
variable {F : Fence} {n : Nat} {P : Program} {w : World}
end
end Go.Proofs.YtifkjnmnflhnoaaGreatDoor

namespace Go.Proofs.YtifkjnmnflhnoaaGreatDoor
open Go.RowKit Go.Sort Go.Shelf
attribute [local go_sem] Oper.semAt_some
end Go.Proofs.YtifkjnmnflhnoaaGreatDoor

namespace Go.Proofs.YtifkjnmnflhnoaaGreatDoor
open Go.RowKit Go.Sort Go.Shelf
section
variable {P : Program} {ops : Array Oper} {md : Region.Mode} {lp n : Nat}
theorem wpAnyIn_inv {F : Fence} {Q : Exit → Act → World → Prop} (Inv : Array Bool → Act → World → Prop)
    (hstep : ∀ listed a w i, Shut md ops listed → Inv listed a w → i ∈ Region.ready md ops listed → wpOpIn F n P ops Q i (Inv (listed.setIfInBounds i true)) a w)
    (hend : ∀ listed a w, Shut md ops listed → Inv listed a w → Region.ready md ops listed = [] → Q .normal a w) :
    ∀ (fuel : Nat) (listed : Array Bool) (a : Act) (w : World), left listed ops.size ≤ fuel → Shut md ops listed → Inv listed a w → wpAnyIn F n P md ops Q fuel listed a w
  | 0, listed, a, w, hl, hs, hI => by
    have hr : Region.ready md ops listed = [] := by
      cases hr : Region.ready md ops listed with
      | nil => rfl
      | cons i rest =>
        have hm : i ∈ Region.ready md ops listed := by rw [hr]; exact List.mem_cons_self
        have h0 := (mem_ready.1 hm).1
        have := left_pos h0 ops.size (by rw [← hs.size]; exact lt_of_unlisted h0)
        omega
    exact ⟨hr, hend _ _ _ hs hI hr⟩
  | fuel + 1, listed, a, w, hl, hs, hI => by
    refine ⟨fun hr => hend _ _ _ hs hI hr, fun i hi => ?_⟩
    have h0 := (mem_ready.1 hi).1
    have h1 := left_set h0 ops.size (by rw [← hs.size]; exact lt_of_unlisted h0)
    exact wpOpIn_mono (fun a' w' h' => wpAnyIn_inv Inv hstep hend fuel _ a' w' (by omega) (hs.set hi) h') (hstep _ _ _ _ hs hI hi)
def noDefer (ops : Array Oper) : Bool := ops.all fun o => match o.op with | .defer _ => false | _ => true
theorem noDefer_spec (h : noDefer ops = true) {i : Nat} {o : Oper} (ho : ops[i]? = some o) (c) : o.op ≠ .defer c := by
  intro e
  unfold noDefer at h
  have := Array.all_eq_true'.1 h o (Array.mem_of_getElem? ho)
  rw [e] at this
  cases this
end
end Go.Proofs.YtifkjnmnflhnoaaGreatDoor

namespace Go.Proofs.YtifkjnmnflhnoaaGreatDoor
open Go.RowKit Go.Sort Go.Shelf
attribute [local go_sem] Oper.semAt_some
theorem keeps_below {B : Nat} {W W' : World} (h : Below W.heap.size W W') : KeepsFrom B W W' := ⟨h.size, fun k _ _ hk _ => (h.block k (Array.getElem?_eq_some_iff.1 hk).1).trans hk⟩
theorem below_put {base : Nat} {w W : World} {D : Nat} (h : Below base w W) (hb : base ≤ W.heap.size) (hD : base ≤ D) (o : Obj) : Below base w (W.putObj D o) :=
  h.grown (grownBy_putObj' W D o) hb (fun k e => by injection e with e; omega)
end Go.Proofs.YtifkjnmnflhnoaaGreatDoor

namespace Go.Proofs.YtifkjnmnflhnoaaGreatDoor
open Go.RowKit Go.Sort Go.Shelf
attribute [local go_sem] Oper.semAt_some
theorem wpListIn_snocE {α : Type} {E : Elem α} (g : E.Good) {F : Fence} {n : Nat} (w : World) {ops : Array Oper} {rest : List Oper} {o : Oper} {a : Act} {Q : Exit → Act → World → Prop} (hg : o.guard = none) (s x : Operand) (hop : o.op = Op.call { callee := Callee.builtin Builtin.append, args := #[s, x], argTypes := #[E.sl, E.sl] })
    (base : Nat) (v : Value) (l : List α) (y : α) (hs : a.eval s = v) (hown : OwnE E w base v l) (b : Nat) (hx : a.eval x = .slice (some ⟨b, 0, none⟩) 1 1) (hc : ∀ i u, (E.enc y)[i]? = some u → w.cell? ⟨b, i, none⟩ = some u) (hlen : l.length ≤ 100000) (hbase : base ≤ w.heap.size)
    (h : ∀ v' w', OwnE E w' base v' (l ++ [y]) → (∀ b0 W, b0 ≤ base → Below b0 W w → Below b0 W w') → w.grownBy w' v.ownBlock → wpListIn F n Tryz.prog ops Q rest (a.put o.dst v') w') : wpListIn F n Tryz.prog ops Q (o :: rest) a w := by
  obtain ⟨i0, hi, iz0, iz1, iz2⟩ := info_parts g.info
  refine wpListIn_append_own w hg s x E.sl hop base E.ty i0 E.z E.size E.bytes g.und hi iz0 iz1 iz2 g.zs g.pos v l.length (E.cells l) hs hown ⟨b, 0, none⟩ 1 1 (E.enc y) hx (by rw [g.len, Nat.one_mul]) (fun j u hj => ?_) (fun u hu => g.one y u hu) (by unfold maxLen; omega) (by have := g.by_; exact Nat.le_trans (Nat.mul_le_mul (show l.length + 1 ≤ 100001 by omega) this) (by decide)) hbase fun v' w' h1 h2 h3 => ?_
  · have := hc j u hj
    rwa [show (⟨b, 0, none⟩ : Addr).add j = ⟨b, j, none⟩ from by unfold Addr.add; split <;> simp_all]
  · refine h v' w' ?_ (fun b0 W hb hB => hB.grown h2 (Nat.le_trans hb hbase) fun k hk => Nat.le_trans hb (hown.lt k hk).1) h2
    show w'.ownsRow base E.ty E.size v' (l ++ [y]).length (E.cells (l ++ [y]))
    rw [List.length_append, show E.cells (l ++ [y]) = E.cells l ++ E.enc y from by simp [Elem.cells]]
    exact h1
theorem OwnE.set {α : Type} {E : Elem α} {w : World} {base : Nat} {v : Value} {l : List α} (h : OwnE E w base v l) {b : Nat} (hb : b < base) (o : Nat) (u : Value) : OwnE E (w.setCell ⟨b, o, none⟩ u) base v l :=
  ⟨h.1, h.2.imp id fun ⟨g, cap, cur, h1, h2, h3, h4⟩ => ⟨g, cap, cur, h1, h2, (Below.heap_setCell w ⟨b, o, none⟩ u g (by show g ≠ b; omega)).trans h3, h4⟩⟩
end Go.Proofs.YtifkjnmnflhnoaaGreatDoor

namespace Go.Proofs.YtifkjnmnflhnoaaGreatDoor
open Go.RowKit Go.Sort
/-! ### Next -/
end Go.Proofs.YtifkjnmnflhnoaaGreatDoor

namespace Go.Proofs.YtifkjnmnflhnoaaGreatDoor
open Go.RowKit Go.Sort Go.Shelf
end Go.Proofs.YtifkjnmnflhnoaaGreatDoor

namespace Go.Proofs.YtifkjnmnflhnoaaGreatDoor
open Go.RowKit Go.Sort Go.Shelf
end Go.Proofs.YtifkjnmnflhnoaaGreatDoor

namespace Go.Proofs.YtifkjnmnflhnoaaGreatDoor
open Go.RowKit Go.Sort Go.Shelf
end Go.Proofs.YtifkjnmnflhnoaaGreatDoor

namespace Go.Proofs.YtifkjnmnflhnoaaGreatDoor
open Go.RowKit Go.Sort
end Go.Proofs.YtifkjnmnflhnoaaGreatDoor

namespace Go.Proofs.YtifkjnmnflhnoaaGreatDoor
open Go.RowKit Go.Sort
end Go.Proofs.YtifkjnmnflhnoaaGreatDoor

namespace Go.Proofs.YtifkjnmnflhnoaaGreatDoor
open Go.RowKit Go.Sort
end Go.Proofs.YtifkjnmnflhnoaaGreatDoor

namespace Go.Proofs.YtifkjnmnflhnoaaGreatDoor
open Go.RowKit Go.Sort
end Go.Proofs.YtifkjnmnflhnoaaGreatDoor

namespace Go.Proofs.YtifkjnmnflhnoaaGreatDoor
open Go.RowKit Go.Sort
end Go.Proofs.YtifkjnmnflhnoaaGreatDoor

namespace Go.Proofs.YtifkjnmnflhnoaaGreatDoor
open Go.RowKit Go.Sort
end Go.Proofs.YtifkjnmnflhnoaaGreatDoor

namespace Go.Proofs.YtifkjnmnflhnoaaGreatDoor
open Go.RowKit Go.Sort
end Go.Proofs.YtifkjnmnflhnoaaGreatDoor

namespace Go.Proofs.YtifkjnmnflhnoaaGreatDoor
open Go.RowKit Go.Sort
end Go.Proofs.YtifkjnmnflhnoaaGreatDoor

namespace Go.Proofs.YtifkjnmnflhnoaaGreatDoor
open Go.RowKit Go.Sort
/-- all blocks of some types are kept -/
def Kept (l : List TypeId) (w w' : World) : Prop := w.heap.size ≤ w'.heap.size ∧ ∀ (b : Nat) (cs : Array Value) (t : TypeId) (fr : Nat × Nat), w.heap[b]? = some (Obj.cells cs t fr) → t ∈ l → w'.heap[b]? = w.heap[b]?
theorem Kept.of_below {l : List TypeId} {w w' : World} (h : Below w.heap.size w w') : Kept l w w' := ⟨h.size, fun b _ _ _ hb _ => h.block b (Array.getElem?_eq_some_iff.1 hb).1⟩
theorem Kept.of_grown {l : List TypeId} {w w' : World} {row : Option Nat} (hg : w.grownBy w' row) (ht : ∀ g, row = some g → ∃ cur e fr, w.heap[g]? = some (Obj.cells cur e fr) ∧ e ∉ l) : Kept l w w' :=
  ⟨hg.size, fun b cs t fr hb hl => hg.block b (Array.getElem?_eq_some_iff.1 hb).1 fun e => by
    obtain ⟨cur, e', fr', h1, h2⟩ := ht b e.symm
    rw [hb] at h1
    injection h1 with h1
    injection h1 with _ h1 _
    exact h2 (h1 ▸ hl)⟩
theorem Kept.of_own {l : List TypeId} {w w' : World} {base : Nat} {e : TypeId} {size n : Nat} {v : Value} {xs : List Value} (hg : w.grownBy w' v.ownBlock) (ho : w.ownsRow base e size v n xs) (he : e ∉ l) : Kept l w w' :=
  Kept.of_grown hg fun g hgo => by
    obtain ⟨_, cur, h⟩ := owns_typed ho g hgo
    exact ⟨cur, e, _, h, he⟩
theorem Kept.trans {l : List TypeId} {w w' w'' : World} (h : Kept l w w') (k : Kept l w' w'') : Kept l w w'' :=
  ⟨Nat.le_trans h.1 k.1, fun b cs t fr hb hl => by
    have h1 := h.2 b cs t fr hb hl
    rw [← h1]
    exact k.2 b cs t fr (h1.trans hb) hl⟩
theorem Kept.set {l : List TypeId} {w : World} {b : Nat} {cs : Array Value} {t : TypeId} {fr : Nat × Nat} (hb : w.heap[b]? = some (Obj.cells cs t fr)) (ht : t ∉ l) (o : Nat) (u : Value) : Kept l w (w.setCell ⟨b, o, none⟩ u) :=
  ⟨by simp, fun b' cs' t' fr' hb' hl => Below.heap_setCell w ⟨b, o, none⟩ u b' fun e => by
    subst e
    rw [hb] at hb'
    injection hb' with h1
    injection h1 with _ h1 _
    exact ht (h1 ▸ hl)⟩
/-! ### A box of the call's own, whole -/
def TBox (w : World) (b : Nat) (t : TypeId) (cs : Array Value) : Prop := w.heap[b]? = some (Obj.cells cs t (0, 0))
theorem TBox.new (w : World) (cs : Array Value) (t : TypeId) : TBox (w.alloc (.cells cs t)) w.heap.size t cs := heap_alloc_new _ _
theorem TBox.lt {w : World} {b : Nat} {t : TypeId} {cs : Array Value} (h : TBox w b t cs) : b < w.heap.size := (Array.getElem?_eq_some_iff.1 h).1
theorem TBox.cell {w : World} {b : Nat} {t : TypeId} {cs : Array Value} (h : TBox w b t cs) (i : Nat) : w.cell? ⟨b, i, none⟩ = cs[i]? := cell_of_row w b i _ _ _ h
theorem TBox.frozen {w : World} {b : Nat} {t : TypeId} {cs : Array Value} (h : TBox w b t cs) (i : Nat) : w.frozen? ⟨b, i, none⟩ = false := by
  unfold World.frozen?
  simp only [show w.heap[b]? = some (Obj.cells cs t (0, 0)) from h]
  simp
theorem TBox.mono {w w' : World} {b : Nat} {t : TypeId} {cs : Array Value} (h : TBox w b t cs) (hb : Below w.heap.size w w') : TBox w' b t cs := (hb.block b h.lt).trans h
theorem TBox.kept {l : List TypeId} {w w' : World} {b : Nat} {t : TypeId} {cs : Array Value} (h : TBox w b t cs) (hk : Kept l w w') (ht : t ∈ l) : TBox w' b t cs := (hk.2 b cs t _ h ht).trans h
theorem TBox.grown {w w' : World} {b : Nat} {t : TypeId} {cs : Array Value} {row : Option Nat} (h : TBox w b t cs) (hg : w.grownBy w' row) (hne : some b ≠ row) : TBox w' b t cs := (hg.block b h.lt hne).trans h
theorem TBox.set {w : World} {b : Nat} {t : TypeId} {cs : Array Value} (h : TBox w b t cs) (o : Nat) (u : Value) : TBox (w.setCell ⟨b, o, none⟩ u) b t (cs.setIfInBounds o u) := by
  unfold TBox at *
  unfold World.setCell
  simp [Array.getElem?_modify, h]
theorem TBox.other {w : World} {b b' : Nat} {t : TypeId} {cs : Array Value} (h : TBox w b t cs) (hne : b' ≠ b) (o : Nat) (u : Value) : TBox (w.setCell ⟨b', o, none⟩ u) b t cs :=
  (Below.heap_setCell w ⟨b', o, none⟩ u b fun e => hne e.symm).trans h
theorem owns_set {w : World} {base : Nat} {e : TypeId} {size n : Nat} {v : Value} {xs : List Value} (h : w.ownsRow base e size v n xs) {b : Nat} (hb : b < base) (o : Nat) (u : Value) : (w.setCell ⟨b, o, none⟩ u).ownsRow base e size v n xs :=
  ⟨h.1, h.2.imp id fun ⟨g, cap, cur, h1, h2, h3, h4⟩ => ⟨g, cap, cur, h1, h2, (Below.heap_setCell w ⟨b, o, none⟩ u g (by show g ≠ b; omega)).trans h3, h4⟩⟩
/-! ### Rows that know the type of their block -/
def RowK (w : World) (A : Option Addr) (T : TypeId) (xs : List Value) : Prop := xs = [] ∨ ∃ b o cur fr, A = some ⟨b, o, none⟩ ∧ w.heap[b]? = some (Obj.cells cur T fr) ∧ ∀ j v, xs[j]? = some v → cur[o + j]? = some v
theorem RowK.row {w : World} {A : Option Addr} {T : TypeId} {xs : List Value} (h : RowK w A T xs) : RowAt w A xs :=
  h.imp id fun ⟨b, o, cur, fr, h1, h2, h3⟩ => ⟨b, o, h1, (Array.getElem?_eq_some_iff.1 h2).1, fun j v hj => (cell_of_row w b _ _ _ _ h2).trans (h3 j v hj)⟩
theorem RowK.kept {l : List TypeId} {w w' : World} {A : Option Addr} {T : TypeId} {xs : List Value} (h : RowK w A T xs) (hk : Kept l w w') (ht : T ∈ l) : RowK w' A T xs :=
  h.imp id fun ⟨b, o, cur, fr, h1, h2, h3⟩ => ⟨b, o, cur, fr, h1, (hk.2 b cur T fr h2 ht).trans h2, h3⟩
theorem RowK.mono {w w' : World} {A : Option Addr} {T : TypeId} {xs : List Value} (h : RowK w A T xs) (hb : Below w.heap.size w w') : RowK w' A T xs := h.kept (Kept.of_below (l := [T]) hb) (by simp)
theorem RowK.own {w : World} {base : Nat} {T : TypeId} {size n : Nat} {v : Value} {xs : List Value} (h : w.ownsRow base T size v n xs) : ∃ A c, v = .slice A n c ∧ RowK w A T xs := by
  rcases h.2 with ⟨rfl, rfl⟩ | ⟨g, cap, cur, rfl, _, h3, _, _, _, h6⟩
  · exact ⟨none, 0, rfl, .inl (List.eq_nil_of_length_eq_zero (by rw [h.1, Nat.zero_mul]))⟩
  · refine ⟨_, cap, rfl, .inr ⟨g, 0, cur, _, rfl, h3, fun j u hj => ?_⟩⟩
    rw [← h6, List.getElem?_take] at hj
    split at hj
    · rw [Nat.zero_add]
      simpa using hj
    · cases hj
theorem AtHand.rowK {N : Nat} {e : TypeId} {size n : Nat} {xs : List Value} {w : World} {v : Value} (h : AtHand N e size n xs w v) : ∃ A c, v = .slice A n c ∧ RowK w A e xs := by
  rcases h with ⟨rfl, rfl, g, rfl⟩ | ⟨_, h⟩
  · exact ⟨_, 0, rfl, .inl rfl⟩
  · exact RowK.own h
/-! ### Worlds and towns that have been copied -/
/-- the rows of the first k wells of a world -/
def WdRows (w : World) (x : Wd) (k : Nat) (vs : List Value) : Prop := vs.length = k ∧ ∀ j u, vs[j]? = some u → ∃ A c, u = .slice A (x.len j) c ∧ RowK w A 3 (intL (x.fall j) (x.len j)) ∧ x.len j ≤ 9223372036854775807
theorem WdRows.kept {l : List TypeId} {w w' : World} {x : Wd} {k : Nat} {vs : List Value} (h : WdRows w x k vs) (hk : Kept l w w') (ht : 3 ∈ l) : WdRows w' x k vs :=
  ⟨h.1, fun j u hj => by
    obtain ⟨A, c, h1, h2, h3⟩ := h.2 j u hj
    exact ⟨A, c, h1, h2.kept hk ht, h3⟩⟩
theorem WdRows.snoc {w : World} {x : Wd} {k : Nat} {vs : List Value} {A : Option Addr} {c : Nat} (h : WdRows w x k vs) (h2 : RowK w A 3 (intL (x.fall k) (x.len k))) (h3 : x.len k ≤ 9223372036854775807) : WdRows w x (k + 1) (vs ++ [.slice A (x.len k) c]) :=
  ⟨by rw [List.length_append, h.1]; rfl, fun j u hj => by
    rcases Nat.lt_or_ge j vs.length with hlt | hge
    · rw [List.getElem?_append_left hlt] at hj
      exact h.2 j u hj
    · rw [List.getElem?_append_right hge] at hj
      have hl := h.1
      obtain rfl : j = k := by
        have := (List.getElem?_eq_some_iff.1 hj).1
        simp only [List.length_cons, List.length_nil] at this
        omega
      rw [hl, Nat.sub_self] at hj
      injection hj with hj
      exact ⟨A, c, hj.symm, h2, h3⟩⟩
/-- a world, as a value: its rows -/
def WdK (w : World) (v : Value) (x : Wd) : Prop := ∃ A c vs, v = .slice A x.n c ∧ RowK w A 34 vs ∧ WdRows w x x.n vs
theorem WdK.kept {l : List TypeId} {w w' : World} {v : Value} {x : Wd} (h : WdK w v x) (hk : Kept l w w') (h1 : 3 ∈ l) (h2 : 34 ∈ l) : WdK w' v x := by
  obtain ⟨A, c, vs, e, hr, hv⟩ := h
  exact ⟨A, c, vs, e, hr.kept hk h2, hv.kept hk h1⟩
theorem WdK.mono {w w' : World} {v : Value} {x : Wd} (h : WdK w v x) (hb : Below w.heap.size w w') : WdK w' v x := h.kept (Kept.of_below (l := [3, 34]) hb) (by simp) (by simp)
theorem WdK.rows {w : World} {v : Value} {x : Wd} (h : WdK w v x) : ∃ A c, v = .slice A x.n c ∧ RowsAt w A x := by
  obtain ⟨A, c, vs, e, hr, hl, hv⟩ := h
  refine ⟨A, c, e, ?_⟩
  rcases Nat.eq_zero_or_pos x.n with h0 | h0
  · exact .inl h0
  · rcases hr.row with h1 | ⟨b, o, rfl, hlt, hc⟩
    · rw [h1] at hl
      simp at hl
      omega
    · refine .inr ⟨b, o, rfl, hlt, fun k hk => ?_⟩
      obtain ⟨u, hu⟩ : ∃ u, vs[k]? = some u := ⟨_, List.getElem?_eq_getElem (by rw [hl]; exact hk)⟩
      obtain ⟨A', c', rfl, h2, h3⟩ := hv k u hu
      exact ⟨A', c', hc k _ hu, intsAt_row.2 h2.row, h3⟩
/-- the first n worlds, as values -/
def WsRows (w : World) (f : Nat → Wd) (n : Nat) (us : List Value) : Prop := us.length = n ∧ ∀ i u, us[i]? = some u → WdK w u (f i) ∧ (f i).n ≤ 9223372036854775807
theorem WsRows.kept {l : List TypeId} {w w' : World} {f : Nat → Wd} {n : Nat} {us : List Value} (h : WsRows w f n us) (hk : Kept l w w') (h1 : 3 ∈ l) (h2 : 34 ∈ l) : WsRows w' f n us :=
  ⟨h.1, fun i u hi => ⟨(h.2 i u hi).1.kept hk h1 h2, (h.2 i u hi).2⟩⟩
theorem WsRows.mono {w w' : World} {f : Nat → Wd} {n : Nat} {us : List Value} (h : WsRows w f n us) (hb : Below w.heap.size w w') : WsRows w' f n us := h.kept (Kept.of_below (l := [3, 34]) hb) (by simp) (by simp)
theorem WsRows.snoc {w : World} {f : Nat → Wd} {n : Nat} {us : List Value} {v : Value} (h : WsRows w f n us) (hv : WdK w v (f n)) (hn : (f n).n ≤ 9223372036854775807) : WsRows w f (n + 1) (us ++ [v]) :=
  ⟨by rw [List.length_append, h.1]; rfl, fun i u hi => by
    rcases Nat.lt_or_ge i us.length with hlt | hge
    · rw [List.getElem?_append_left hlt] at hi
      exact h.2 i u hi
    · rw [List.getElem?_append_right hge] at hi
      have hl := h.1
      obtain rfl : i = n := by
        have := (List.getElem?_eq_some_iff.1 hi).1
        simp only [List.length_cons, List.length_nil] at this
        omega
      rw [hl, Nat.sub_self] at hi
      injection hi with hi
      exact ⟨hi ▸ hv, hn⟩⟩
/-- the cells of facts -/
def factL (f : Nat → Fact) : Nat → List Value := catL fun i => [.int .i64 (f i).from_, .int .i64 (f i).many, .int .i64 (f i).to_, .int .i64 (f i).low, .int .i64 (f i).high]
theorem factL_len (f : Nat → Fact) (n : Nat) : (factL f n).length = n * 5 := by unfold factL; exact catL_len (s := 5) (fun _ => rfl) n
theorem factsAt_row {w : World} {A : Option Addr} {n : Nat} {f : Nat → Fact} (h : RowAt w A (factL f n)) : FactsAt w A n f := by
  rcases Nat.eq_zero_or_pos n with h0 | h0
  · exact .inl h0
  rcases h with h | ⟨b, o, rfl, hlt, hc⟩
  · exact .inl (catL_nil (s := 5) (fun _ => rfl) (by decide) h)
  · have hg := fun (i j : Nat) (hi : i < n) (hj : j < 5) => catL_get (f := fun i => [.int .i64 (f i).from_, .int .i64 (f i).many, .int .i64 (f i).to_, .int .i64 (f i).low, .int .i64 (f i).high]) (s := 5) (fun _ => rfl) hj n hi
    exact .inr ⟨b, o, rfl, hlt, fun i hi => ⟨by simpa using hc (i * 5 + 0) _ (hg i 0 hi (by decide)), hc (i * 5 + 1) _ (hg i 1 hi (by decide)), hc (i * 5 + 2) _ (hg i 2 hi (by decide)), hc (i * 5 + 3) _ (hg i 3 hi (by decide)), hc (i * 5 + 4) _ (hg i 4 hi (by decide))⟩⟩
theorem factsAt_iff {w : World} {A : Option Addr} {n : Nat} {f : Nat → Fact} (h : FactsAt w A n f) : RowAt w A (factL f n) := by
  rcases h with h | ⟨b, o, rfl, hlt, hc⟩
  · subst h; exact .inl rfl
  · refine .inr ⟨b, o, rfl, hlt, fun k v hv => ?_⟩
    obtain ⟨i, j, hi, hj, rfl, e⟩ := catL_inv (s := 5) (fun _ => rfl) n hv
    obtain ⟨h0, h1, h2, h3, h4⟩ := hc i hi
    match j, hj, e with
    | 0, _, e => simp at e; subst e; exact h0
    | 1, _, e => simp at e; subst e; exact h1
    | 2, _, e => simp at e; subst e; exact h2
    | 3, _, e => simp at e; subst e; exact h3
    | 4, _, e => simp at e; subst e; exact h4
/-- a town of the call's own -/
structure CopyAt (w : World) (base : Nat) (vW vF : Value) (t : Qt) : Prop where
  worlds : ∃ us, w.ownsRow base 63 1 vW t.nw us ∧ WsRows w t.world t.nw us
  facts : w.ownsRow base 27 5 vF t.nf (factL t.fact t.nf)
theorem CopyAt.mono {w w' : World} {base : Nat} {vW vF : Value} {t : Qt} (h : CopyAt w base vW vF t) (hb : Below w.heap.size w w') : CopyAt w' base vW vF t := by
  obtain ⟨⟨us, h1, h2⟩, h3⟩ := h
  exact ⟨⟨us, owns_below h1 hb, h2.mono hb⟩, owns_below h3 hb⟩
theorem CopyAt.lower {w : World} {base base' : Nat} {vW vF : Value} {t : Qt} (h : CopyAt w base vW vF t) (hb : base' ≤ base) : CopyAt w base' vW vF t := by
  obtain ⟨⟨us, h1, h2⟩, h3⟩ := h
  exact ⟨⟨us, owns_lower h1 hb, h2⟩, owns_lower h3 hb⟩
theorem CopyAt.qat {w : World} {base : Nat} {vW vF : Value} {t : Qt} (h : CopyAt w base vW vF t) : ∃ Aw cw Af cf, vW = .slice Aw t.nw cw ∧ vF = .slice Af t.nf cf ∧ QAt w Aw Af t := by
  obtain ⟨⟨us, h1, h2, h3⟩, h4⟩ := h
  obtain ⟨Aw, cw, rfl, hr⟩ := RowK.own h1
  obtain ⟨Af, cf, rfl, hf⟩ := RowK.own h4
  refine ⟨Aw, cw, Af, cf, rfl, rfl, ?_, factsAt_row hf.row⟩
  rcases Nat.eq_zero_or_pos t.nw with h0 | h0
  · exact .inl h0
  · rcases hr.row with h5 | ⟨b, o, rfl, hlt, hc⟩
    · rw [h5] at h2
      simp at h2
      omega
    · refine .inr ⟨b, o, rfl, hlt, fun i hi => ?_⟩
      obtain ⟨u, hu⟩ : ∃ u, us[i]? = some u := ⟨_, List.getElem?_eq_getElem (by rw [h2]; exact hi)⟩
      obtain ⟨hw, hn⟩ := h3 i u hu
      obtain ⟨A', c', rfl, h6⟩ := hw.rows
      exact ⟨A', c', hc i _ hu, h6, hn⟩
end Go.Proofs.YtifkjnmnflhnoaaGreatDoor

namespace Go.Proofs.YtifkjnmnflhnoaaGreatDoor
open Go.RowKit Go.Sort
/-- 'append([]T{}, xs...)' at a step of a region, whatever fits -/
theorem stir_copy2 {P : Program} {o : Oper} {a : Act} (w : World) (s x : Operand) (t : TypeId) (hop : o.op = Op.call { callee := Callee.builtin Builtin.append, args := #[s, x], argTypes := #[t, t] })
    (e : TypeId) (z : Value) (size bytes : Nat) (hinfo : (P.info? e).map (fun i => (i.zero, i.size, i.bytes)) = some (some z, size, bytes)) (ht : P.underlying t = some (.slice e)) (hzs : z.cells.size = size) (hsz : 0 < size)
    (ad : Nat) (A : Option Addr) (m c : Nat) (L : List Value) (hs : a.eval s = .slice (some ⟨ad, 0, none⟩) 0 0) (hx : a.eval x = .slice A m c) (hl : L.length = m * size) (hr : RowAt w A L) (h63 : m ≤ maxLen) (hby : m * bytes ≤ 140737488355328) (N : Nat) (hN : N ≤ w.heap.size) :
    Oper.stirAt P o a w Newer (fun w' v => ShapeOf m v ∧ AtHand N e size m L w' v) := by
  obtain ⟨i0, hi, iz0, iz1, iz2⟩ := info_parts hinfo
  have hbytes : (0 + m) * bytes ≤ 140737488355328 := by rw [Nat.zero_add]; exact hby
  rcases Nat.eq_zero_or_pos m with h0 | h0
  · subst h0
    obtain rfl : L = [] := List.eq_nil_of_length_eq_zero (by simpa using hl)
    have hrun : (Builtin.append_ #[t, t] o.type #[.slice (some ⟨ad, 0, none⟩) 0 0, .slice A 0 c]).run P w = .ok (.slice (some ⟨ad, 0, none⟩) 0 0) w := by
      cases A with
      | none => simp [Builtin.append_, run_underlying ht, sizeOf, typeInfo, hi, Builtin.lenOf, Builtin.firstCells, storeCells]
      | some a =>
        have hfc := run_firstCells_some (P := P) w i0.size 0 a 0 c [] (by simp) (fun j u h => by simp at h)
        simp [Builtin.append_, run_underlying ht, sizeOf, typeInfo, hi, Builtin.lenOf, hfc, storeCells]
    unfold Oper.stirAt
    simp only [execOp, hop, resolve, invoke, builtin, List.map_toArray, List.map_cons, List.map_nil, hs, hx, hrun, Result.andThen, Sem.run_bind, Sem.run_pure, Oper.stirUpon]
    exact ⟨Below.refl _ _, ⟨_, _, rfl⟩, .inl ⟨rfl, rfl, _, rfl⟩⟩
  · rcases hr with hr | ⟨b, o', rfl, hlt, hc⟩
    · rw [hr] at hl
      have := Nat.mul_pos h0 hsz
      simp only [List.length_nil] at hl
      omega
    · obtain ⟨v', w', hrun, hown, hg⟩ := run_append_arg_grows (P := P) w t o.type e i0 z size bytes ht hi iz0 iz1 iz2 hzs hsz ⟨ad, 0, none⟩ 0 0 [] (by simp) (fun j u h => by simp at h) ⟨b, o', none⟩ m c L hl (fun j u h => by
        rw [show (⟨b, o', none⟩ : Addr).add j = ⟨b, o' + j, none⟩ from by unfold Addr.add; split <;> simp_all]; exact hc j u h) (by omega) (by omega) hbytes
      simp only [List.nil_append, Nat.zero_add] at hown
      obtain ⟨g, cap, rfl⟩ := owns_form hown h0
      unfold Oper.stirAt
      simp only [execOp, hop, resolve, invoke, builtin, List.map_toArray, List.map_cons, List.map_nil, hs, hx, hrun, Result.andThen, Sem.run_bind, Sem.run_pure, Oper.stirUpon]
      exact ⟨below_grown hg, ⟨_, _, rfl⟩, .inr ⟨h0, owns_lower hown hN⟩⟩
/-- 'append(out, xs...)' of a slice of the call's own, as the one operation of a region -/
theorem stir_own {P : Program} {o : Oper} {a : Act} {w : World} {R : World → Value → Prop} (s x : Operand) (t : TypeId) (hop : o.op = Op.call { callee := Callee.builtin Builtin.append, args := #[s, x], argTypes := #[t, t] })
    (base : Nat) (e : TypeId) (z : Value) (size bytes : Nat) (hinfo : (P.info? e).map (fun i => (i.zero, i.size, i.bytes)) = some (some z, size, bytes)) (ht : P.underlying t = some (.slice e)) (hzs : z.cells.size = size) (hsz : 0 < size)
    (v : Value) (n : Nat) (xs : List Value) (hs : a.eval s = v) (hown : w.ownsRow base e size v n xs) (ad : Addr) (m c : Nat) (news : List Value) (hx : a.eval x = .slice (some ad) m c) (hl : news.length = m * size) (hnews : ∀ j u, news[j]? = some u → w.cell? (ad.add j) = some u) (h1 : ∀ u ∈ news, u.oneCell' = true)
    (h63 : n + m ≤ maxLen) (hbytes : (n + m) * bytes ≤ 140737488355328) (hbase : base ≤ w.heap.size)
    (h : ∀ v' w', w'.ownsRow base e size v' (n + m) (xs ++ news) → w.grownBy w' v.ownBlock → R w' v') : Oper.stirAt P o a w (fun _ _ => True) R := by
  obtain ⟨i0, hi, iz0, iz1, iz2⟩ := info_parts hinfo
  obtain ⟨v', w', hrun, h2, h3, _⟩ := run_append_own (P := P) w base t o.type e i0 z size bytes ht hi iz0 iz1 iz2 hzs hsz v n xs hown ad m c news hl hnews h1 h63 hbytes hbase
  unfold Oper.stirAt
  simp only [execOp, hop, resolve, invoke, builtin, List.map_toArray, List.map_cons, List.map_nil, hs, hx, hrun, Result.andThen, Sem.run_bind, Sem.run_pure, Oper.stirUpon]
  exact ⟨trivial, h v' w' h2 h3⟩
/-- what fits into memory -/
def Wd.Fits (x : Wd) : Prop := x.n * 24 ≤ 140737488351232 ∧ ∀ k, k < x.n → x.len k * 8 ≤ 140737488351232
def Qt.Fits (t : Qt) : Prop := t.nw * 24 ≤ 140737488351232 ∧ t.nf * 40 ≤ 140737488351232 ∧ ∀ i, i < t.nw → (t.world i).Fits
theorem Qt.Fits.small {t : Qt} (h : t.Fits) : t.Small :=
  ⟨by have := h.1; omega, by have := h.2.1; omega, fun i hi k hk => by have := (h.2.2 i hi).2 k hk; omega⟩
/-- a new slice of one cell that holds a row of numbers -/
def one1 (v : Value) : Prop := ∃ b, v = .slice (some ⟨b, 0, none⟩) 1 1
def rowIn (m : Nat) (xs : List Value) (w : World) (v : Value) : Prop := ∀ b, v = .slice (some ⟨b, 0, none⟩) 1 1 → ∃ A c, w.cell? ⟨b, 0, none⟩ = some (.slice A m c) ∧ RowK w A 3 xs
theorem rowIn_mono {m : Nat} {xs : List Value} {w w' : World} {v : Value} (hb : Below w.heap.size w w') (h : rowIn m xs w v) : rowIn m xs w' v := fun b e => by
  obtain ⟨A, c, h1, h2⟩ := h b e
  exact ⟨A, c, (hb.cell (World.block_lt_of_cell? w _ h1)).trans h1, h2.mono hb⟩
theorem infoRow : (Tryz.prog.info? 34).map (fun i => (i.zero, i.size, i.bytes)) = some (some (.slice none 0 0), 1, 24) := by kernel_rfl
theorem news1 {w : World} {b : Nat} {u : Value} (h : w.cell? ⟨b, 0, none⟩ = some u) : ∀ j v, [u][j]? = some v → w.cell? ((⟨b, 0, none⟩ : Addr).add j) = some v := by
  intro j v hj
  match j, hj with
  | 0, hj => simp at hj; subst hj; simpa [Addr.add] using h
theorem one1c {u : Value} (h : u.oneCell' = true) : ∀ v ∈ [u], v.oneCell' = true := by
  intro v hv
  rw [List.mem_singleton.1 hv]
  exact h
set_option maxHeartbeats 4000000 in
set_option maxRecDepth 100000 in
theorem copyWorld5_any (A : Option Addr) (c : Nat) (x : Wd) (w : World) (hf : x.Fits) (hX : RowsAt w A x) :
    Calls Tryz.prog 44 #[.agg #[.slice A x.n c]] w fun e w' => (∃ v vs, e = .returned (.agg #[v]) ∧ w'.ownsRow w.heap.size 34 1 v x.n vs ∧ WdRows w' x x.n vs) ∧ Below w.heap.size w w' := by
  have hb2 := bAlloc (bAlloc (Below.refl w.heap.size w) (.cells #[.slice A x.n c] 63)) (.cells #[.slice none 0 0] 63)
  have HX := Lib.hid hX
  have HB := Lib.hid hb2
  have HF := Lib.hid hf
  have hn63 : x.n ≤ 9223372036854775807 := by have := hf.1; omega
  clear hX hb2 hf
  go_enter Tryz.func44, Tryz.ntmps44
  go_wp2_with fail
  go_loopw [4] (fun s wr => ∃ (k : Nat) (V : Value) (vs : List Value), k ≤ x.n ∧ s = .int .i64 k ∧ TBox wr (w.heap.size + 1 + 1) 63 #[V] ∧ wr.ownsRow (w.heap.size + 3) 34 1 V k vs ∧ WdRows wr x k vs ∧ Below (w.heap.size + 2) ((w.alloc (.cells #[.slice A x.n c] 63)).alloc (.cells #[.slice none 0 0] 63)) wr) (fun s _ => x.n - (intOf s).toNat)
  case atStart => exact ⟨0, .slice none 0 0, [], Nat.zero_le _, rfl, by have := TBox.new ((w.alloc (.cells #[.slice A x.n c] 63)).alloc (.cells #[.slice none 0 0] 63)) #[.slice none 0 0] 63; simpa using this, World.ownsRow_nil _ _ _ _, ⟨rfl, fun j u h => by simp at h⟩, by have := bAlloc (Below.refl ((w.alloc (.cells #[.slice A x.n c] 63)).alloc (.cells #[.slice none 0 0] 63)).heap.size ((w.alloc (.cells #[.slice A x.n c] 63)).alloc (.cells #[.slice none 0 0] 63))) (.cells #[.slice none 0 0] 63); simpa using this⟩
  case round =>
    obtain ⟨k, V, vs, hk, rfl, hbx, hown, hrows, hbel⟩ := hrel
    have HT := Lib.hid hbx
    have HO := Lib.hid hown
    have HR := Lib.hid hrows
    have HL := Lib.hid hbel
    have HW := Lib.hid (bTrans HB.out (by simpa using hbel))
    have p0 := (hbel.cell (p := ⟨w.heap.size, 0, none⟩) (by show w.heap.size < w.heap.size + 2; omega)).trans (show _ = some (.slice A x.n c) by simp [go_sem])
    have p1 : wr.cell? ⟨w.heap.size + 1 + 1, 0, none⟩ = some V := hbx.cell 0
    have p2 := hbx.frozen 0
    have hz : w.heap.size + 1 + 1 < wr.heap.size := hbx.lt
    have hy : w.heap.size < wr.heap.size := by omega
    clear hbx hown hrows hbel
    by_cases hlt : k < x.n
    · rcases HX.out.mono HW.out with h0 | ⟨b, o, hA, hb, hc⟩
      · omega
      obtain ⟨A', c', c0, hrow, hlen⟩ := hc k hlt
      subst hA
      obtain ⟨m, hm⟩ : ∃ m, x.len k = m := ⟨_, rfl⟩
      rw [hm] at c0 hrow hlen
      have HM := Lib.hid hm
      have HROW := Lib.hid (intsAt_row.1 hrow)
      have HFM := Lib.hid (show m * 8 ≤ 140737488351232 by have := HF.out.2 k hlt; rw [hm] at this; exact this)
      have k1 : (k : Int) < (x.n : Int) := by omega
      have k0 : (0 : Int) ≤ (k : Int) := by omega
      clear hc hrow hm
      go_wp2_with fail
      refine wp_region_pin 10 [.const (.pointer (some ⟨w.heap.size + 1 + 1, 0, none⟩)), .const V, .held emptyV anyR, .const (.pointer (some ⟨w.heap.size, 0, none⟩)), .const (.slice (some ⟨b, o, none⟩) x.n c), .const (.int .i64 k), .const (.pointer (some ⟨b, o + k, none⟩)), .const (.slice A' m c'), .held (ShapeOf m) (AtHand wr.heap.size 3 1 m (intL (x.fall k) m)), .held one1 (rowIn m (intL (x.fall k) m))]
        [.pointer (some ⟨w.heap.size + 1 + 1, 0, none⟩)] (by kernel_rfl) (by kernel_rfl) rfl ⟨trivial, trivial, anyG, trivial, trivial, trivial, trivial, trivial, shapeG _ _ _ _ _, ⟨⟨_, 0, rfl⟩, fun _ _ _ hb h => rowIn_mono hb h⟩, trivial⟩ (crossAll_no _ _ _ _ trivial) rfl rfl (fun j u hj => ?_) ?_
      · match j, hj with
        | 0, hj =>
          obtain rfl : Value.pointer (some ⟨w.heap.size + 1 + 1, 0, none⟩) = u := by simpa using hj
          exact ⟨_, rfl, rfl, fun w' => by go_simp⟩
      iterate 2 refine wpStir_const (by go_simp) ?_
      refine wpStir_held rfl (fun w' hb hd => ?_) (fun v hv => ?_)
      · clear hd
        go_simp
        exact ⟨bAlloc (Below.refl _ _) _, ⟨_, rfl⟩, trivial⟩
      obtain ⟨b1, rfl⟩ := hv
      iterate 5 refine wpStir_const (by go_simp) ?_
      simp only [Act.put, List.setIfInBounds_toArray, List.set_cons_succ, List.set_cons_zero]
      refine wpStir_held rfl (fun w' hb hd => ?_) (fun v hv => ?_)
      · clear hd
        exact stir_copy2 w' (Operand.tmp 14) (Operand.tmp 19) 34 rfl 3 (.int .i64 0) 1 8 infoInt Tryz.underlying34 rfl (by decide) b1 A' m c' (intL (x.fall k) m) rfl rfl (by rw [intL_len, Nat.mul_one]) (HROW.out.mono hb) (by unfold maxLen; have := HFM.out; omega) (by have := HFM.out; omega) _ hb.size
      obtain ⟨b2, c2, rfl⟩ := hv
      refine wpStir_held rfl (fun w' hb hd => ?_) (fun v hv => ?_)
      · have h1 : AtHand wr.heap.size 3 1 m (intL (x.fall k) m) w' (.slice (some ⟨b2, 0, none⟩) m c2) := hd.1 (by kernel_rfl)
        clear hd
        obtain ⟨A3, c3, e3, h3⟩ := h1.rowK
        injection e3 with e3 _ e4
        subst e3 e4
        go_simp
        exact ⟨bAlloc (Below.refl _ _) _, ⟨_, rfl⟩, fun b' hb' => by
          obtain rfl : w'.heap.size = b' := by simpa using hb'
          exact ⟨some ⟨b2, 0, none⟩, c2, by simp [go_sem], h3.mono (bAlloc (Below.refl _ _) _)⟩⟩
      obtain ⟨b3, rfl⟩ := hv
      simp only [Act.put, List.setIfInBounds_toArray, List.set_cons_succ, List.set_cons_zero]
      refine wpStir_end (fun w5 hb5 hd => ?_)
      obtain ⟨A4, c4, h4, h5⟩ := hd.1 b3 rfl
      clear hd
      have HT5 := Lib.hid (HT.out.mono hb5)
      have HO5 := Lib.hid (owns_below HO.out hb5)
      have HR5 := Lib.hid (HR.out.kept (Kept.of_below (l := [3]) hb5) (by simp))
      have HK5 := Lib.hid h5
      have HL5 := Lib.hid (HL.out.trans (hb5.mono (by have := HT.out.lt; omega)))
      have HN5 := Lib.hid (show (k + 1) * 24 ≤ 140737488351232 by have := HF.out.1; omega)
      refine stir_own (Operand.tmp 13) (Operand.tmp 21) 61 rfl (w.heap.size + 3) 34 (.slice none 0 0) 1 24 infoRow Tryz.underlying61 rfl (by decide) V k vs rfl HO5.out ⟨b3, 0, none⟩ 1 1 [.slice A4 m c4] rfl rfl (news1 h4) (one1c rfl) (by unfold maxLen; have := HN5.out; omega) (by have := HN5.out; omega) (by have := HT5.out.lt; omega) (fun v' w6 hown6 hg6 => ?_)
      obtain ⟨A6, c6, rfl, _⟩ := RowK.own hown6
      have hnb : some (w.heap.size + 1 + 1) ≠ V.ownBlock := fun e => by have := HO5.out.lt _ e.symm; omega
      have HT6 := Lib.hid (HT5.out.grown hg6 hnb)
      have HR6 := Lib.hid (HR5.out.kept (Kept.of_own (l := [3]) hg6 HO5.out (by decide)) (by simp))
      have HK6 := Lib.hid (HK5.out.kept (Kept.of_own (l := [3]) hg6 HO5.out (by decide)) (by simp))
      have HL6 := Lib.hid (HL5.out.grown hg6 (by have := HT5.out.lt; omega) (fun q hq => by have := (HO5.out.lt q hq).1; omega))
      have HO6 := Lib.hid hown6
      have q1 : w6.cell? ⟨w.heap.size + 1 + 1, 0, none⟩ = some V := HT6.out.cell 0
      have q2 := HT6.out.frozen 0
      clear hown6 hg6 h4 h5 hb5 p0 p1 p2 c0 hnb
      simp only [putF, Act.put, List.setIfInBounds_toArray, List.set_cons_succ, List.set_cons_zero, List.drop_succ_cons, List.drop_zero]
      go_wp2_with fail
      go_roundw
      case rel =>
        have hk7 : Kept [3] w6 (w6.setCell ⟨w.heap.size + 1 + 1, 0, none⟩ (.slice A6 (k + 1) c6)) := Kept.set HT6.out (by decide) 0 (.slice A6 (k + 1) c6)
        have hs7 : WdRows (w6.setCell ⟨w.heap.size + 1 + 1, 0, none⟩ (.slice A6 (k + 1) c6)) x (k + 1) (vs ++ [.slice A4 m c4]) := by
          have := (HR6.out.kept hk7 (by simp)).snoc (A := A4) (c := c4) (by rw [HM.out]; exact HK6.out.kept hk7 (by simp)) (by rw [HM.out]; exact hlen)
          rw [HM.out] at this
          exact this
        refine ⟨k + 1, .slice A6 (k + 1) c6, _, by omega, ?_, HT6.out.set 0 (.slice A6 (k + 1) c6), owns_set HO6.out (by omega) 0 (.slice A6 (k + 1) c6), hs7, HL6.out.setCell (p := ⟨w.heap.size + 1 + 1, 0, none⟩) (by simp) (.slice A6 (k + 1) c6)⟩
        go_num
      case measure => simp [intOf]; omega
    · obtain rfl : k = x.n := by omega
      obtain ⟨A6, c6, rfl, _⟩ := RowK.own HO.out
      have r0 := HL.out.cell (p := ⟨w.heap.size + 1, 0, none⟩) (by show w.heap.size + 1 < w.heap.size + 2; omega)
      have r1 := HL.out.frozen (p := ⟨w.heap.size + 1, 0, none⟩) (by show w.heap.size + 1 < w.heap.size + 2; omega)
      simp [go_sem] at r0 r1
      have hy1 : w.heap.size + 1 < wr.heap.size := by omega
      go_wp2_with fail
      have hT1 : TBox wr (w.heap.size + 1) 63 #[.slice none 0 0] := (HL.out.block (w.heap.size + 1) (by omega)).trans (by have := TBox.new (w.alloc (.cells #[.slice A x.n c] 63)) #[.slice none 0 0] 63; simpa [TBox] using this)
      have hK1 : Kept [3] wr (wr.setCell ⟨w.heap.size + 1, 0, none⟩ (.slice A6 x.n c6)) := Kept.set hT1 (by decide) 0 _
      refine bodyPost_ret (v := .agg #[.slice A6 x.n c6]) (by simp [results, Tryz.results44, go_sem, *]) rfl ⟨⟨.slice A6 x.n c6, vs, rfl, owns_lower (owns_set HO.out (by omega) 0 _) (by omega), HR.out.kept hK1 (by simp)⟩, Below.setCell (p := ⟨w.heap.size + 1, 0, none⟩) HW.out (by simp) (.slice A6 x.n c6)⟩
end Go.Proofs.YtifkjnmnflhnoaaGreatDoor

