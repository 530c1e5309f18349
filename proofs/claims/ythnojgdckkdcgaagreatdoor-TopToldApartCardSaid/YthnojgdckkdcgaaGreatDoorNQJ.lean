/- Parts joined: what all claims of this seat need. -/
import Derived.OwnWalk
import Derived.Laws.AppendOwn
import Derived.Laws.OwnMore
import Derived.Laws.IdiomCopy
import Derived.Test.YthnojgdckkdcgaaGreatDoorNQI
import Derived.Test.YthnojgdckkdcgaaGreatDoorNQA
import Derived.Deep.RegionLaw
import Derived.Lib.SliceRun
import Derived.Test.YthnojgdckkdcgaaGreatDoorNQH
import Derived.Test.YthnojgdckkdcgaaGreatDoorCards
set_option linter.unusedSimpArgs false
set_option linter.unusedVariables false
namespace Go.Proofs.YthnojgdckkdcgaaGreatDoor
open Go.RowKit Go.Sort
def noWay : Way := ⟨-1, 0, 0⟩
def Way.vals (x : Way) : List Value := [.int .i64 x.rings, .int .i64 x.pence, .int .i64 x.next]
def wayL (f : Nat → Way) : Nat → List Value
  | 0 => []
  | n + 1 => wayL f n ++ (f n).vals
theorem wayL_len (f : Nat → Way) (n : Nat) : (wayL f n).length = n * 3 := by
  induction n with
  | zero => rfl
  | succ n ih => simp only [wayL, List.length_append, ih, Way.vals, List.length_cons, List.length_nil]; omega
theorem wayL_get (f : Nat → Way) {n i : Nat} (h : i < n) : (wayL f n)[i * 3]? = some (.int .i64 (f i).rings) ∧ (wayL f n)[i * 3 + 1]? = some (.int .i64 (f i).pence) ∧ (wayL f n)[i * 3 + 2]? = some (.int .i64 (f i).next) := by
  induction n with
  | zero => omega
  | succ n ih =>
    have hl := wayL_len f n
    rcases Nat.lt_or_ge i n with h1 | h1
    · obtain ⟨a, b, c⟩ := ih h1
      simp only [wayL]
      refine ⟨?_, ?_, ?_⟩ <;> rw [List.getElem?_append_left (by omega)] <;> assumption
    · obtain rfl : i = n := by omega
      simp only [wayL]
      refine ⟨?_, ?_, ?_⟩ <;> rw [List.getElem?_append_right (by omega), hl] <;> simp [Way.vals]
theorem wayL_inv (f : Nat → Way) {n j : Nat} {v : Value} (h : (wayL f n)[j]? = some v) : ∃ i, i < n ∧ ((j = i * 3 ∧ v = .int .i64 (f i).rings) ∨ (j = i * 3 + 1 ∧ v = .int .i64 (f i).pence) ∨ (j = i * 3 + 2 ∧ v = .int .i64 (f i).next)) := by
  have hj : j < n * 3 := by
    have := (List.getElem?_eq_some_iff.1 h).1
    rwa [wayL_len] at this
  obtain ⟨a, b, c⟩ := wayL_get f (n := n) (i := j / 3) (by omega)
  refine ⟨j / 3, by omega, ?_⟩
  rcases (by omega : j = j / 3 * 3 ∨ j = j / 3 * 3 + 1 ∨ j = j / 3 * 3 + 2) with e | e | e
  · rw [← e, h] at a; exact .inl ⟨e, by simpa using a⟩
  · rw [← e, h] at b; exact .inr (.inl ⟨e, by simpa using b⟩)
  · rw [← e, h] at c; exact .inr (.inr ⟨e, by simpa using c⟩)
theorem wayL_one (f : Nat → Way) (n : Nat) : ∀ v ∈ wayL f n, v.oneCell' = true := by
  intro v hv
  obtain ⟨j, hj, e⟩ := List.getElem_of_mem hv
  obtain ⟨i, _, h⟩ := wayL_inv f (n := n) (j := j) (v := v) (by rw [List.getElem?_eq_getElem hj, e])
  rcases h with ⟨_, rfl⟩ | ⟨_, rfl⟩ | ⟨_, rfl⟩ <;> rfl
theorem WaysAt.read {w : World} {g n : Nat} {f : Nat → Way} (h : WaysAt w g n f) {o k : Nat} (hk : o + k ≤ n) : ∀ j v, (wayL (fun i => f (o + i)) k)[j]? = some v → w.cell? ((⟨g, o * 3, none⟩ : Addr).add j) = some v := by
  intro j v hv
  have hadd : (⟨g, o * 3, none⟩ : Addr).add j = ⟨g, o * 3 + j, none⟩ := by unfold Addr.add; split <;> simp_all
  rw [hadd]
  obtain ⟨i, hi, e⟩ := wayL_inv _ hv
  rcases e with ⟨rfl, rfl⟩ | ⟨rfl, rfl⟩ | ⟨rfl, rfl⟩
  · rw [← h.c0 (o + i) (by omega)]; congr 2; omega
  · rw [← h.c1 (o + i) (by omega)]; congr 2; omega
  · rw [← h.c2 (o + i) (by omega)]; congr 2; omega
/-- other memory stays, and the cells of the row too: what is not written reads as before -/
theorem WaysAt.other {w : World} {g n : Nat} {f : Nat → Way} (h : WaysAt w g n f) {p : Addr} (hp : p.block ≠ g) (v : Value) : WaysAt (w.setCell p v) g n f := by
  have hc : ∀ j, (w.setCell p v).cell? ⟨g, j, none⟩ = w.cell? ⟨g, j, none⟩ := fun j => World.cell?_setCell_other _ _ _ _ (fun e => hp (by rw [e]))
  exact ⟨by simpa [World.setCell] using h.lt, fun i hi => (hc _).trans (h.c0 i hi), fun i hi => (hc _).trans (h.c1 i hi), fun i hi => (hc _).trans (h.c2 i hi), fun j => by rw [World.frozen?_setCell]; exact h.fr j⟩
theorem WaysAt.set {w : World} {g n : Nat} {f : Nat → Way} (h : WaysAt w g n f) {d : Nat} (hd : d < n) (x : Way) :
    WaysAt (((w.setCell ⟨g, d * 3, none⟩ (.int .i64 x.rings)).setCell ⟨g, d * 3 + 1, none⟩ (.int .i64 x.pence)).setCell ⟨g, d * 3 + 2, none⟩ (.int .i64 x.next)) g n (fun i => if i = d then x else f i) := by
  have k0 := h.c0 d hd
  have k1 := h.c1 d hd
  have k2 := h.c2 d hd
  have other : ∀ j, j ≠ d * 3 → j ≠ d * 3 + 1 → j ≠ d * 3 + 2 → (((w.setCell ⟨g, d * 3, none⟩ (.int .i64 x.rings)).setCell ⟨g, d * 3 + 1, none⟩ (.int .i64 x.pence)).setCell ⟨g, d * 3 + 2, none⟩ (.int .i64 x.next)).cell? ⟨g, j, none⟩ = w.cell? ⟨g, j, none⟩ := fun j h0 h1 h2 => by
    rw [World.cell?_setCell_other _ _ _ _ (fun e => by injection e with _ e; omega), World.cell?_setCell_other _ _ _ _ (fun e => by injection e with _ e; omega), World.cell?_setCell_other _ _ _ _ (fun e => by injection e with _ e; omega)]
  refine ⟨by simpa [World.setCell] using h.lt, fun i hi => ?_, fun i hi => ?_, fun i hi => ?_, fun j => by rw [World.frozen?_setCell, World.frozen?_setCell, World.frozen?_setCell]; exact h.fr j⟩
  all_goals
    by_cases e : i = d
    · subst e
      simp only [if_true]
      simp [World.cell?_setCell_other, World.cell?_setCell_same _ _ _ k0, k1, k2, go_sem]
    · simp only [if_neg e]
      rw [other _ (by omega) (by omega) (by omega)]
      first | exact h.c0 i hi | exact h.c1 i hi | exact h.c2 i hi
theorem WaysAt.setCells {w : World} {g n : Nat} {f : Nat → Way} (h : WaysAt w g n f) {o k : Nat} (hk : o + k ≤ n) (f' : Nat → Way) :
    WaysAt (w.setCells g (o * 3) (wayL f' k)) g n (fun i => if o ≤ i ∧ i < o + k then f' (i - o) else f i) := by
  have hl := wayL_len f' k
  have hex : ∀ j, j < n * 3 → (w.cell? ⟨g, j, none⟩).isSome = true := fun j hj => by
    rcases (by omega : j = j / 3 * 3 ∨ j = j / 3 * 3 + 1 ∨ j = j / 3 * 3 + 2) with e | e | e
    · rw [e, h.c0 (j / 3) (by omega)]; rfl
    · rw [e, h.c1 (j / 3) (by omega)]; rfl
    · rw [e, h.c2 (j / 3) (by omega)]; rfl
  have hin : ∀ j v, (wayL f' k)[j]? = some v → (w.setCells g (o * 3) (wayL f' k)).cell? ⟨g, o * 3 + j, none⟩ = some v := fun j v hv => by
    obtain ⟨hj, e⟩ := List.getElem?_eq_some_iff.1 hv
    rw [World.cell?_setCells_in g (wayL f' k) (o * 3) w (fun j hj => hex _ (by omega)) j hj, e]
  have hout : ∀ j, (j < o * 3 ∨ o * 3 + k * 3 ≤ j) → (w.setCells g (o * 3) (wayL f' k)).cell? ⟨g, j, none⟩ = w.cell? ⟨g, j, none⟩ := fun j hj =>
    World.cell?_setCells_out g _ _ _ _ (fun _ _ => by rw [hl]; exact hj)
  have hsz : (w.setCells g (o * 3) (wayL f' k)).heap.size = w.heap.size := by
    have : ∀ (vs : List Value) (p : Nat) (w : World), (w.setCells g p vs).heap.size = w.heap.size := by
      intro vs
      induction vs with
      | nil => intro p w; rfl
      | cons v r ih => intro p w; rw [World.setCells, ih]; simp [World.setCell]
    exact this _ _ _
  refine ⟨by rw [hsz]; exact h.lt, fun i hi => ?_, fun i hi => ?_, fun i hi => ?_, fun j => by rw [World.frozen?_setCells]; exact h.fr j⟩
  all_goals
    by_cases e : o ≤ i ∧ i < o + k
    · rw [if_pos e]
      obtain ⟨a, b, c⟩ := wayL_get f' (n := k) (i := i - o) (by omega)
      first
        | (rw [← hin _ _ a]; congr 2; omega)
        | (rw [← hin _ _ b]; congr 2; omega)
        | (rw [← hin _ _ c]; congr 2; omega)
    · rw [if_neg e, hout _ (by omega)]
      first | exact h.c0 i hi | exact h.c1 i hi | exact h.c2 i hi
theorem waysAt_own {w : World} {base g n cap : Nat} {e : TypeId} {f : Nat → Way} (h : w.ownsRow base e 3 (.slice (some ⟨g, 0, none⟩) n cap) n (wayL f n)) : base ≤ g ∧ WaysAt w g n f := by
  have hlt := h.lt g rfl
  have hc : ∀ j u, (wayL f n)[j]? = some u → w.cell? ⟨g, j, none⟩ = some u := fun j u hu => by
    have := h.cells (g := g) rfl j u hu
    rwa [show (⟨g, 0, none⟩ : Addr).add j = ⟨g, j, none⟩ from by unfold Addr.add; split <;> simp_all] at this
  exact ⟨hlt.1, hlt.2, fun i hi => hc _ _ (wayL_get f hi).1, fun i hi => hc _ _ (wayL_get f hi).2.1, fun i hi => hc _ _ (wayL_get f hi).2.2, fun j => h.frozenAt j⟩
end Go.Proofs.YthnojgdckkdcgaaGreatDoor


namespace Go.Proofs.YthnojgdckkdcgaaGreatDoor
open Go.RowKit Go.Sort
theorem infoWay : (Tryz.prog.info? 198).map (fun i => (i.zero, i.size, i.bytes)) = some (some (.agg #[.int .i64 0, .int .i64 0, .int .i64 0]), 3, 24) := by kernel_rfl
theorem cheaper_any (x y : Way) (w : World) :
    Calls Tryz.prog 136 #[.agg #[.int .i64 x.rings, .int .i64 x.pence, .int .i64 x.next], .agg #[.int .i64 y.rings, .int .i64 y.pence, .int .i64 y.next]] w fun e w' => e = .returned (.bool (decide (x.pence < y.pence))) ∧ Below w.heap.size w w' := by
  have hb0 := bAlloc (bAlloc (Below.refl w.heap.size w) (.cells #[.int .i64 x.rings, .int .i64 x.pence, .int .i64 x.next] 198)) (.cells #[.int .i64 y.rings, .int .i64 y.pence, .int .i64 y.next] 198)
  have HB := Lib.hid hb0
  clear hb0
  by_cases h : x.pence < y.pence
  all_goals
    go_enter Tryz.func136, Tryz.ntmps136
    go_wp2_with fail
    go_ret
    exact ⟨ret_bool (by simp [h]), HB.out⟩
/-- what Clone hands back: a new row with the same ways -/
def Cloned (w w' : World) (n : Nat) (f : Nat → Way) (e : Ending) : Prop :=
  ∃ g' c', e = .returned (.slice (some ⟨g', 0, none⟩) n c') ∧ w.heap.size ≤ g' ∧ WaysAt w' g' n f ∧ Below w.heap.size w w'
set_option maxHeartbeats 2000000 in
set_option maxRecDepth 100000 in
theorem clone_any (g n c : Nat) (f : Nat → Way) (w : World) (h0 : 0 < n) (hn : n ≤ 13) (h : WaysAt w g n f) :
    Calls Tryz.prog 204 #[.slice (some ⟨g, 0, none⟩) n c] w fun e w' => Cloned w w' n f e := by
  have HW := Lib.hid h
  clear h
  obtain ⟨i0, hi, hz0, hz1, hz2⟩ := info_parts infoWay
  have q : ∀ (w : World) (a : Option Addr) (n c n' c' : Nat), (binOp .eql 252 (.slice a n c) (.slice none n' c')).run Tryz.prog w = .ok (.bool a.isNone) w := fun w a n c n' c' => Lib.run_eql_slice_nil w _ _ a n c n' c' Tryz.underlying252
  go_enter Tryz.func204, Tryz.ntmps204
  go_wp2_with (at_builtin; refine wpList_append_own _ rfl _ _ 252 rfl w.heap.size 198 i0 (.agg #[.int .i64 0, .int .i64 0, .int .i64 0]) 3 24 Tryz.underlying252 hi hz0 hz1 hz2 rfl (by decide) _ _ _ rfl (World.ownsRow_made w #[] 0 (Nat.le_refl _) (Nat.zero_le _) rfl) ⟨g, 0, none⟩ n c (wayL f n) rfl (wayL_len f n) ?qc2 (wayL_one f n) ?qc4 ?qc5 ?qc6 ?_)
  case qc2 =>
    have := (HW.out.mono (bAlloc (Below.refl _ w) (.cells #[] 198))).read (o := 0) (k := n) (by omega)
    simpa using this
  case qc4 => unfold maxLen; omega
  case qc5 => omega
  case qc6 => simp
  intro v' w1 hown hgrow hnil
  go_wp2
  obtain ⟨hlen, hor⟩ := id hown
  rcases hor with ⟨_, h1⟩ | ⟨g', cap, cur, rfl, hb, _⟩
  · omega
  go_ret
  refine ⟨g', cap, by simp, hb, (waysAt_own hown).2, ?_⟩
  exact ((Below.refl _ w).alloc (Nat.le_refl _) _).grown hgrow (by simp) (by intro k hk; simp [Value.ownBlock] at hk; omega)
theorem to13 {n : Nat} (h0 : 0 < n) (hn : n ≤ 13) : n = 1 ∨ n = 2 ∨ n = 3 ∨ n = 4 ∨ n = 5 ∨ n = 6 ∨ n = 7 ∨ n = 8 ∨ n = 9 ∨ n = 10 ∨ n = 11 ∨ n = 12 ∨ n = 13 := by omega
theorem mul64_any (n : Nat) (w : World) (h0 : 0 < n) (hn : n ≤ 13) :
    Calls Tryz.prog 212 #[.int .u64 1, .int .u64 n] w fun e w' => e = .returned (.tuple #[.int .u64 0, .int .u64 n]) ∧ w = w' := by
  rcases to13 h0 hn with rfl | rfl | rfl | rfl | rfl | rfl | rfl | rfl | rfl | rfl | rfl | rfl | rfl
  all_goals
    go_enter Tryz.func212, Tryz.ntmps212
    go_wp2
    go_ret2
    exact ⟨rfl, rfl⟩
theorem mul_any (n : Nat) (w : World) (h0 : 0 < n) (hn : n ≤ 13) :
    Calls Tryz.prog 210 #[.int .u64 1, .int .u64 n] w fun e w' => e = .returned (.tuple #[.int .u64 0, .int .u64 n]) ∧ w = w' := by
  go_enter Tryz.func210, Tryz.ntmps210
  go_wp2_with (go_at_call 212; refine (mul64_any n _ h0 hn).mono ?_; rintro e w1 ⟨rfl, rfl⟩)
  go_ret2
  exact ⟨rfl, rfl⟩
/-- copy between two rows of ways: all is read before anything is written -/
theorem run_copy_ways {P : Program} (w : World) (dT sT ty elem : TypeId) (g o dLen dCap : Nat) (g2 o2 sLen sCap n n2 k : Nat) (f f2 : Nat → Way)
    (hu : P.underlying dT = some (.slice elem)) (hs : (P.info? elem).map (·.size) = some 3) (hk : k = Nat.min sLen dLen)
    (h : WaysAt w g n f) (h2 : WaysAt w g2 n2 f2) (hd : o + k ≤ n) (hd2 : o2 + k ≤ n2) :
    (Builtin.copy_ #[dT, sT] ty #[.slice (some ⟨g, o * 3, none⟩) dLen dCap, .slice (some ⟨g2, o2 * 3, none⟩) sLen sCap]).run P w = .ok (goInt k) (w.setCells g (o * 3) (wayL (fun i => f2 (o2 + i)) k)) := by
  have hl := run_loadCells_list (P := P) w ⟨g2, o2 * 3, none⟩ (wayL (fun i => f2 (o2 + i)) k) (h2.read hd2)
  rw [wayL_len] at hl
  have hex : ∀ j, j < n * 3 → (w.cell? ⟨g, j, none⟩).isSome = true := fun j hj => by
    rcases (by omega : j = j / 3 * 3 ∨ j = j / 3 * 3 + 1 ∨ j = j / 3 * 3 + 2) with e | e | e
    · rw [e, h.c0 (j / 3) (by omega)]; rfl
    · rw [e, h.c1 (j / 3) (by omega)]; rfl
    · rw [e, h.c2 (j / 3) (by omega)]; rfl
  have hst := run_storeCells_cells (P := P) g (o * 3) (wayL (fun i => f2 (o2 + i)) k) 0 w (fun j hj => by rw [wayL_len] at hj; exact hex _ (by omega)) (fun j _ => h.fr _) (wayL_one _ _)
  cases hq : P.info? elem with
  | none => simp [hq] at hs
  | some i =>
    have hi : i.size = 3 := by simpa [hq] using hs
    simp [Builtin.copy_, run_underlying hu, Builtin.lenOf, Builtin.firstCells, sizeOf, typeInfo, hq, hi, ← hk, hl, hst]
end Go.Proofs.YthnojgdckkdcgaaGreatDoor


namespace Go.Proofs.YthnojgdckkdcgaaGreatDoor
open Go.RowKit Go.Sort
theorem below_setCells {b : Nat} : ∀ (vs : List Value) (o : Nat) {w x : World}, Below w.heap.size w x → w.heap.size ≤ b → Below w.heap.size w (x.setCells b o vs)
  | [], _, _, _, h, _ => h
  | v :: r, o, w, x, h, hb => below_setCells r (o + 1) (h.setCell (by simpa using hb) v) hb
theorem wpList_copy_ways {P : Program} {w : World} {ops : Array Oper} {rest : List Oper} {o : Oper} {a : Act} {Q : Exit → Act → World → Prop} (hgd : o.guard = none) (d s : Operand) (dT sT : TypeId)
    (ho : o.op = .call { callee := .builtin .copy, args := #[d, s], argTypes := #[dT, sT] }) (elem : TypeId) (hu : P.underlying dT = some (.slice elem)) (hsz : (P.info? elem).map (·.size) = some 3)
    (g p dLen dCap g2 p2 sLen sCap n n2 q q2 k : Nat) (f f2 : Nat → Way) (hd : a.eval d = .slice (some ⟨g, p, none⟩) dLen dCap) (hs : a.eval s = .slice (some ⟨g2, p2, none⟩) sLen sCap)
    (hp : p = q * 3) (hp2 : p2 = q2 * 3) (hk : k = Nat.min sLen dLen) (h1 : WaysAt w g n f) (h2 : WaysAt w g2 n2 f2) (hf : q + k ≤ n) (hf2 : q2 + k ≤ n2) (w0 : World) (hb : Below w0.heap.size w0 w) (hg : w0.heap.size ≤ g)
    (h : ∀ w', WaysAt w' g n (fun i => if q ≤ i ∧ i < q + k then f2 (q2 + (i - q)) else f i) → Below w0.heap.size w0 w' → wpList P ops Q rest (a.put o.dst (goInt k)) w') : wpList P ops Q (o :: rest) a w := by
  subst hp hp2
  refine wpList_plain hgd fun K hK => ?_
  have hrun := run_copy_ways (P := P) w dT sT o.type elem g q dLen dCap g2 q2 sLen sCap n n2 k f f2 hu hsz hk h1 h2 hf hf2
  unfold Oper.wp
  simp [execOp, ho, resolve, invoke, builtin, hd, hs, hrun, Result.andThen]
  exact hK _ _ (h _ (h1.setCells hf _) (below_setCells _ _ hb hg))
theorem step_copy_ways {P : Program} {ops : Array Oper} {o : Oper} {a : Act} {w : World} {K : Act → World → Prop} {Q : Exit → Act → World → Prop} {E : Prop} (hgd : o.guard = none) (d s : Operand) (dT sT : TypeId)
    (ho : o.op = .call { callee := .builtin .copy, args := #[d, s], argTypes := #[dT, sT] }) (elem : TypeId) (hu : P.underlying dT = some (.slice elem)) (hsz : (P.info? elem).map (·.size) = some 3)
    (g p dLen dCap g2 p2 sLen sCap n n2 q q2 k : Nat) (f f2 : Nat → Way) (hd : a.eval d = .slice (some ⟨g, p, none⟩) dLen dCap) (hs : a.eval s = .slice (some ⟨g2, p2, none⟩) sLen sCap)
    (hp : p = q * 3) (hp2 : p2 = q2 * 3) (hk : k = Nat.min sLen dLen) (h1 : WaysAt w g n f) (h2 : WaysAt w g2 n2 f2) (hf : q + k ≤ n) (hf2 : q2 + k ≤ n2) (w0 : World) (hb : Below w0.heap.size w0 w) (hg : w0.heap.size ≤ g)
    (h : ∀ w', Hid (WaysAt w' g n (fun i => if q ≤ i ∧ i < q + k then f2 (q2 + (i - q)) else f i)) → Hid (Below w0.heap.size w0 w') → K (a.put o.dst (goInt k)) w') :
    if Region.wanted o (yielded ops a.tmps) = true then Oper.wp P o a w K Q else E := by
  have hw : Region.wanted o (yielded ops a.tmps) = true := by simp [Region.wanted, hgd]
  rw [if_pos hw]
  subst hp hp2
  have hrun := run_copy_ways (P := P) w dT sT o.type elem g q dLen dCap g2 q2 sLen sCap n n2 k f f2 hu hsz hk h1 h2 hf hf2
  unfold Oper.wp
  simp [execOp, ho, resolve, invoke, builtin, hd, hs, hrun, Result.andThen]
  exact h _ (show _ from h1.setCells hf _) (show _ from below_setCells _ _ hb hg)
theorem sizeWay : (Tryz.prog.info? 198).map (·.size) = some 3 := by kernel_rfl
theorem waysAt_zero (n : Nat) : (madeCells (Value.agg #[.int .i64 0, .int .i64 0, .int .i64 0]).cells (n * 3)).toList = wayL (fun _ => ⟨0, 0, 0⟩) n := by
  apply List.ext_getElem?
  intro j
  by_cases hj : j < n * 3
  · obtain ⟨a, b, c⟩ := wayL_get (fun _ => ⟨0, 0, 0⟩) (n := n) (i := j / 3) (by omega)
    rcases (by omega : j = j / 3 * 3 ∨ j = j / 3 * 3 + 1 ∨ j = j / 3 * 3 + 2) with e | e | e
    · have h1 : j / 3 * 3 < n * 3 := by omega
      have h2 : (j / 3 * 3) % 3 = 0 := by omega
      rw [e, a]; simp [madeCells, Value.cells, h1, h2]
    · have h1 : j / 3 * 3 + 1 < n * 3 := by omega
      have h2 : (j / 3 * 3 + 1) % 3 = 1 := by omega
      rw [e, b]; simp [madeCells, Value.cells, h1, h2]
    · have h1 : j / 3 * 3 + 2 < n * 3 := by omega
      have h2 : (j / 3 * 3 + 2) % 3 = 2 := by omega
      rw [e, c]; simp [madeCells, Value.cells, h1, h2]
  · rw [List.getElem?_eq_none (by simp [madeCells]; omega), List.getElem?_eq_none (by rw [wayL_len]; omega)]
/-- what is there in Repeat's loop: a row of N ways, the first k of which are those that there are not -/
structure Filled (w wr : World) (N k : Nat) : Prop where
  at_ : ∃ f, WaysAt wr w.heap.size N f ∧ ∀ j, j < k → f j = noWay
  below : Below w.heap.size w wr
theorem filled_go {w w2 : World} {N k m : Nat} {f : Nat → Way} (h : ∀ j, j < k → f j = noWay) (hm : m ≤ k) (h2 : WaysAt w2 w.heap.size N (fun i => if k ≤ i ∧ i < k + m then f (0 + (i - k)) else f i)) (hb : Below w.heap.size w w2) : Filled w w2 N (k + m) :=
  ⟨⟨_, h2, fun j hj => by
    by_cases e : k ≤ j ∧ j < k + m
    · simp only [if_pos e]; exact h _ (by omega)
    · simp only [if_neg e]; exact h _ (by omega)⟩, hb⟩
set_option maxHeartbeats 2000000 in
set_option maxRecDepth 100000 in
theorem repeat_any (g c N : Nat) (K : Int) (hK : K = N) (w : World) (h0 : 0 < N) (hN : N ≤ 13) (h : WaysAt w g 1 (fun _ => noWay)) :
    Calls Tryz.prog 203 #[.slice (some ⟨g, 0, none⟩) 1 c, .int .i64 K] w fun e w' => Cloned w w' N (fun _ => noWay) e := by
  subst hK
  have HW := Lib.hid h
  clear h
  obtain ⟨i0, hi, hz0, hz1, hz2⟩ := info_parts infoWay
  go_enter Tryz.func203, Tryz.ntmps203
  go_wp2_with (first | (go_at_call 210; refine (mul_any N _ h0 hN).mono ?_; rintro e w1 ⟨rfl, rfl⟩) | (at_make; refine wpList_make_full _ rfl _ _ 252 rfl w.heap.size 198 i0 (.agg #[.int .i64 0, .int .i64 0, .int .i64 0]) 3 Tryz.underlying252 hi hz0 hz1 .i64 .i64 _ _ N rfl rfl (by omega) (by omega) (by rw [hz2]; omega) (by unfold maxLen; omega) (Nat.le_refl _) ?_; intro w1 hown hgrow; rw [waysAt_zero] at hown; have HN := Lib.hid (waysAt_own hown).2; have HB := Lib.hid (below_grownBy hgrow (Nat.le_refl _) (fun _ e => nomatch e)); clear hown hgrow) | ((with_reducible show wpList _ _ _ _ _ _); refine wpList_copy_ways (o := ⟨some 33, _, _, _, _, _⟩) rfl (.tmp 31) (.tmp 32) 252 252 rfl 198 Tryz.underlying252 sizeWay w.heap.size 0 N N g 0 1 c N 1 0 0 1 (fun _ => ⟨0, 0, 0⟩) (fun _ => noWay) rfl rfl rfl rfl (by show 1 = min 1 N; omega) HN.out (HW.out.mono HB.out) (by omega) (by omega) w HB.out (Nat.le_refl _) ?_; intro w2 h2 hb2; have HF := Lib.hid (Filled.mk (k := 1) ⟨_, h2, fun j hj => (by obtain rfl : j = 0 := (by omega); simp)⟩ hb2); clear h2 hb2))
  go_loopw [8] (fun i wr => ∃ k : Nat, 1 ≤ k ∧ k ≤ N ∧ i = .int .i64 k ∧ Filled w wr N k) (fun i _ => N - (intOf i).toNat)
  case atStart => exact ⟨1, Nat.le_refl _, by omega, rfl, HF.out⟩
  case round =>
    obtain ⟨k, hk1, hk, rfl, hrel⟩ := hrel
    obtain ⟨⟨f, hW, hF⟩, hB⟩ := hrel
    have HW1 := Lib.hid hW
    have HF1 := Lib.hid hF
    have HB1 := Lib.hid hB
    clear hW hF hB
    by_cases hlt : k < N
    · have hne : ¬ N = k := by omega
      go_wp2_with fail
      go_region_law (refine step_copy_ways rfl (.tmp 41) (.tmp 44) 252 252 rfl 198 Tryz.underlying252 sizeWay w.heap.size (k * 3) (N - k) (N - k) w.heap.size 0 k N N N k 0 (min k (N - k)) f f (by simp [Act.eval, Act.put]) (by simp [Act.eval, Act.put]) rfl rfl rfl (HW1.out.mono (bDrew (Below.refl _ _))) (HW1.out.mono (bDrew (Below.refl _ _))) (by omega) (by omega) w (bDrew HB1.out) (Nat.le_refl _) ?_; intro w2 h2 hb2)
      have e1 : IntKind.i64.wrap ((k : Int) + ((min k (N - k) : Nat) : Int)) = ((k + min k (N - k) : Nat) : Int) := (IntWalk.i64_in _ (by omega)).trans (by omega)
      simp only [e1]
      go_simp
      go_roundw
      case rel => refine ⟨_, _, _, _, _, _, _, _, _, _, _, _, _, _, ?_, rfl⟩; exact ⟨k + min k (N - k), by omega, by omega, by go_num, filled_go HF1.out (Nat.min_le_left _ _) h2.out hb2.out⟩
      case measure => simp [intOf]; omega
    · obtain rfl : k = N := by omega
      go_wp2_with fail
      go_ret
      exact ⟨w.heap.size, k, rfl, Nat.le_refl _, HW1.out.congr HF1.out, HB1.out⟩
end Go.Proofs.YthnojgdckkdcgaaGreatDoor


namespace Go.Proofs.YthnojgdckkdcgaaGreatDoor
open Go.RowKit Go.Sort
/-- one ring at the depth d, ahead of a way -/
def Sh.wayTo (S : Sh) (x : Way) (d : Nat) : Way := ⟨x.rings + 1, x.pence + S.ringc d, d⟩
/-- a place for the next ring looked at -/
def Sh.look (S : Sh) (lt : Way → Way → Bool) (prev : Nat → Way) (cur : Way) (d : Nat) : Way :=
  if prev d = noWay ∨ S.restsB d = false then cur else if cur = noWay ∨ lt (S.wayTo (prev d) d) cur = true then S.wayTo (prev d) d else cur
/-- m places looked at from d + 1 on -/
def Sh.lookTo (S : Sh) (lt : Way → Way → Bool) (prev : Nat → Way) (d : Nat) : Nat → Way
  | 0 => prev d
  | m + 1 => S.look lt prev (S.lookTo lt prev d m) (d + 1 + m)
def Sh.moreWays (S : Sh) (lt : Way → Way → Bool) (prev : Nat → Way) (d : Nat) : Way := if d < S.nf then S.lookTo lt prev d (S.falls d - d) else prev d
def Sh.waysOf (S : Sh) (lt : Way → Way → Bool) : Nat → Nat → Way
  | 0 => fun d => if d = S.nf then ⟨0, 0, 0⟩ else noWay
  | k + 1 => S.moreWays lt (S.waysOf lt k)
structure Way.In (x : Way) (k : Int) : Prop where
  r0 : -1 ≤ x.rings
  r1 : x.rings ≤ k
  p0 : 0 ≤ x.pence
  p1 : x.pence ≤ 207 * k
  n0 : 0 ≤ x.next
  n1 : x.next ≤ 12
theorem Way.In.up {x : Way} {k l : Int} (h : x.In k) (hl : k ≤ l) : x.In l := ⟨h.r0, by have := h.r1; omega, h.p0, by have := h.p1; omega, h.n0, h.n1⟩
theorem noWay_in {k : Int} (h : 0 ≤ k) : noWay.In k := ⟨by simp [noWay], by simp [noWay]; omega, by simp [noWay], by simp [noWay]; omega, by simp [noWay], by simp [noWay]⟩
theorem Way.In.to {S : Sh} {x : Way} {k : Int} (h : x.In k) {d : Nat} (hd : d ≤ 12) (h0 : 0 ≤ S.ringc d) (h1 : S.ringc d ≤ 207) : (S.wayTo x d).In (k + 1) := by
  obtain ⟨r0, r1, p0, p1, n0, n1⟩ := h
  refine ⟨?_, ?_, ?_, ?_, ?_, ?_⟩ <;> simp only [Sh.wayTo] <;> omega
theorem look_in {S : Sh} {lt : Way → Way → Bool} {prev : Nat → Way} {cur : Way} {d : Nat} {k : Int} (hc : cur.In (k + 1)) (hp : (prev d).In k) (hd : d ≤ 12) (hr : S.restsB d = true → 0 ≤ S.ringc d ∧ S.ringc d ≤ 207) : (S.look lt prev cur d).In (k + 1) := by
  unfold Sh.look
  split
  · exact hc
  · rename_i h
    have hr' : S.restsB d = true := by
      cases e : S.restsB d
      · exact absurd (.inr e) h
      · rfl
    split
    · exact hp.to hd (hr hr').1 (hr hr').2
    · exact hc
end Go.Proofs.YthnojgdckkdcgaaGreatDoor


namespace Go.Proofs.YthnojgdckkdcgaaGreatDoor
open Go.RowKit Go.Sort
theorem ring_of_rests {S : Sh} (ok : S.Ok) {d : Nat} (h1 : 1 ≤ d) (hd : d ≤ S.nf) : S.restsB d = true → 0 ≤ S.ringc d ∧ S.ringc d ≤ 207 := fun h => ring_nn ok h1 hd h
theorem lookTo_in {S : Sh} (ok : S.Ok) {lt : Way → Way → Bool} {prev : Nat → Way} {k : Int} (hp : ∀ d, d ≤ S.nf → (prev d).In k) {d : Nat} : ∀ m, d + m ≤ S.nf → (S.lookTo lt prev d m).In (k + 1)
  | 0, h => (hp d (by omega)).up (by omega)
  | m + 1, h => by
    have hnf := ok.nf
    exact look_in (lookTo_in ok hp m (by omega)) (hp _ (by omega)) (by omega) (ring_of_rests ok (by omega) (by omega))
theorem moreWays_in {S : Sh} (ok : S.Ok) {lt : Way → Way → Bool} {prev : Nat → Way} {k : Int} (hp : ∀ d, d ≤ S.nf → (prev d).In k) : ∀ d, d ≤ S.nf → (S.moreWays lt prev d).In (k + 1) := by
  intro d hd
  have := S.falls_bd hd
  unfold Sh.moreWays
  split
  · exact lookTo_in ok hp _ (by omega)
  · exact (hp d hd).up (by omega)
theorem waysOf_in {S : Sh} (ok : S.Ok) (lt : Way → Way → Bool) : ∀ k d, d ≤ S.nf → (S.waysOf lt k d).In k
  | 0, d, hd => by
    unfold Sh.waysOf
    split
    · exact ⟨by simp, by simp, by simp, by simp, by simp, by simp⟩
    · exact noWay_in (by simp)
  | k + 1, d, hd => by
    have := moreWays_in ok (lt := lt) (waysOf_in ok lt k) d hd
    simpa [Sh.waysOf] using this
/-- what ways hands back -/
def Wayed (w w' : World) (n : Nat) (f : Nat → Way) (e : Ending) : Prop :=
  ∃ g' c', e = .returned (.slice (some ⟨g', 0, none⟩) n c') ∧ w.heap.size ≤ g' ∧ WaysAt w' g' n f ∧ Below w.heap.size w w'
/-- whether two ways are equal, number by number -/
def sameWay (a b c a' b' c' : Int) : Bool := decide (a = a' ∧ b = b' ∧ c = c')
theorem sameWay_t (X : Way) (h : X = noWay) : sameWay X.rings X.pence X.next (-1) 0 0 = true := by subst h; rfl
theorem sameWay_f (X : Way) (h : X ≠ noWay) : sameWay X.rings X.pence X.next (-1) 0 0 = false := by
  unfold sameWay
  rw [decide_eq_false_iff_not]
  rintro ⟨h1, h2, h3⟩
  refine h ?_
  cases X
  simp only at h1 h2 h3
  subst h1 h2 h3
  rfl
theorem eqlWay (w : World) (a b c a' b' c' : Int) : (binOp .eql 198 (.agg #[.int .i64 a, .int .i64 b, .int .i64 c]) (.agg #[.int .i64 a', .int .i64 b', .int .i64 c'])).run Tryz.prog w = .ok (.bool (sameWay a b c a' b' c')) w := by
  by_cases h1 : a = a'
  · by_cases h2 : b = b'
    · by_cases h3 : c = c'
      · subst h1 h2 h3; simp [go_sem, sameWay]
      · subst h1 h2; have : (c == c') = false := by simp [h3]
        simp [go_sem, sameWay, h3, this]
    · subst h1; have : (b == b') = false := by simp [h2]
      simp [go_sem, sameWay, h2, this]
  · have : (a == a') = false := by simp [h1]
    simp [go_sem, sameWay, h1, this]
attribute [go_sem ↓] eqlWay
theorem look_skip {S : Sh} {lt : Way → Way → Bool} {prev : Nat → Way} {cur : Way} {d : Nat} (h : prev d = noWay ∨ S.restsB d = false) : S.look lt prev cur d = cur := by unfold Sh.look; rw [if_pos h]
end Go.Proofs.YthnojgdckkdcgaaGreatDoor


namespace Go.Proofs.YthnojgdckkdcgaaGreatDoor
open Go.RowKit Go.Sort Go.ChangeShapes Go.WideShapes Go.ChangeAt Go.Deep
/-- what fits into memory -/
structure Spot.Fits (x : Spot) : Prop where
  nr : x.sh.nr * 32 ≤ 140737488351232
  nf : x.sh.nf * 8 ≤ 140737488351232
  fl : x.fl.Fits
structure Pt.Fits (t : Pt) : Prop where
  q : t.q.Fits
  no : t.no * 8 ≤ 140737488351232
  np : t.np * 8 ≤ 140737488351232
  ns : t.ns * 104 ≤ 140737488351232
  spot : ∀ i, i < t.ns → (t.spot i).Fits
theorem Spot.Fits.small {x : Spot} (h : x.Fits) : x.Small := ⟨by have := h.nr; omega, by have := h.nf; omega, by have := h.fl.1; omega, fun k hk => by have := h.fl.2 k hk; omega⟩
theorem Pt.Fits.small {t : Pt} (h : t.Fits) : t.Small := ⟨h.q.small, by have := h.no; omega, by have := h.np; omega, by have := h.ns; omega, fun i hi => (h.spot i hi).small⟩
section
variable {H : Type} {enc : TypeId × Value → H} {P : Program} {w : World} {base b0 : Nat} {r : Reach} {sp : Nat → Bool} {held : Bool}
theorem four_ints {t ti : TypeId} {f0 f1 f2 f3 : Field} {fuel : Nat} {cs : List Value} {x : DataW H × List MemPlace} (ht : P.underlying t = some (.struct #[f0, f1, f2, f3])) (hone : oneCellFields P #[f0, f1, f2, f3] = true && (f0.type == ti && f1.type == ti && f2.type == ti && f3.type == ti) && P.cellsOf t == 4)
    (hi : P.underlying ti = some (.int .i64)) (h : DataW.trod enc P w base sp held fuel t cs = some x) : ∃ a b c d, cs = [.int .i64 a, .int .i64 b, .int .i64 c, .int .i64 d] := by
  simp only [Bool.and_eq_true, beq_iff_eq, decide_eq_true_eq] at hone
  obtain ⟨⟨ho, ⟨⟨e0, e1⟩, e2⟩, e3⟩, hC⟩ := hone
  obtain ⟨xs, n, _, hx, hlen, hxl, hg⟩ := DataW.trod_struct ht h
  obtain ⟨o0, k0⟩ := hone_of ho 0 f0 rfl
  obtain ⟨o1, k1⟩ := hone_of ho 1 f1 rfl
  obtain ⟨o2, k2⟩ := hone_of ho 2 f2 rfl
  obtain ⟨o3, k3⟩ := hone_of ho 3 f3 rfl
  match cs, hlen.trans hC, xs, hxl with
  | [c0, c1, c2, c3], _, [y0, y1, y2, y3], _ =>
    have g0 := hg 0 f0 rfl
    have g1 := hg 1 f1 rfl
    have g2 := hg 2 f2 rfl
    have g3 := hg 3 f3 rfl
    rw [o0, k0, e0] at g0
    rw [o1, k1, e1] at g1
    rw [o2, k2, e2] at g2
    rw [o3, k3, e3] at g3
    simp only [List.drop_zero, List.take_succ_cons, List.take_zero, List.drop_succ_cons, List.getElem?_cons_zero, List.getElem?_cons_succ] at g0 g1 g2 g3
    obtain ⟨a, h0, _⟩ := DataW.trod_int hi g0
    obtain ⟨b, h1, _⟩ := DataW.trod_int hi g1
    obtain ⟨c, h2, _⟩ := DataW.trod_int hi g2
    obtain ⟨d, h3, _⟩ := DataW.trod_int hi g3
    injection h0 with h0
    injection h1 with h1
    injection h2 with h2
    injection h3 with h3
    subst h0 h1 h2 h3
    exact ⟨a, b, c, d, rfl⟩
theorem rocks_fit {t e ti : TypeId} {f0 f1 f2 f3 : Field} {fuel : Nat} {cs : List Value} {x : DataW H × List MemPlace} (ht : P.underlying t = some (.slice e)) (he : P.underlying e = some (.struct #[f0, f1, f2, f3])) (hone : oneCellFields P #[f0, f1, f2, f3] = true && (f0.type == ti && f1.type == ti && f2.type == ti && f3.type == ti) && P.cellsOf e == 4)
    (hi : P.underlying ti = some (.int .i64)) (hbe : P.bytesOf e = 32) (hf : Fit P t x.1) (h : DataW.trod enc P w base sp held fuel t cs = some x) : ∃ A n c f, cs = [.slice A n c] ∧ RocksAt w A n f ∧ n * 32 ≤ 140737488351232 ∧ SliceIn A n c := by
  have hC : P.cellsOf e = 4 := by
    simp only [Bool.and_eq_true, beq_iff_eq] at hone
    exact hone.2
  rcases open_slice ht h with ⟨h0, _⟩ | ⟨a, len, cap, m, n, D, Pl, hcs, hb, hl, hm, hmm, hx, hel⟩
  · exact ⟨none, 0, 0, fun _ => default, h0, .inl rfl, by decide, Nat.le_refl _, by omega, fun _ => ⟨rfl, rfl⟩⟩
  · have hlm : len ≤ m := by rw [hmm]; split <;> omega
    have hin : SliceIn (some a) len cap := ⟨hl, by unfold maxLen at hm; exact hm, fun h => by cases h⟩
    have hf' : Fit P t (.slice ((List.range len).map D) ((List.range (m - len)).map fun j => D (len + j))) := by rw [hx] at hf; exact hf
    obtain ⟨g1, _⟩ := fit_slice ht hf'
    rw [hbe] at g1
    rw [hC] at hel
    rcases Nat.eq_zero_or_pos len with h0 | h0
    · subst h0; exact ⟨_, 0, cap, fun _ => default, hcs, .inl rfl, by decide, hin⟩
    · have each : ∀ i, i < m → ∃ k0 k1 k2 k3 : Int, w.cell? ((a.add (i * 4)).add 0) = some (.int .i64 k0) ∧ w.cell? ((a.add (i * 4)).add 1) = some (.int .i64 k1) ∧ w.cell? ((a.add (i * 4)).add 2) = some (.int .i64 k2) ∧ w.cell? ((a.add (i * 4)).add 3) = some (.int .i64 k3) := fun i him => by
        obtain ⟨cs', h1, h2⟩ := hel i him
        obtain ⟨_, hlen, hcell⟩ := World.cells?_some h1
        obtain ⟨k0, k1, k2, k3, rfl⟩ := four_ints he hone hi h2
        exact ⟨k0, k1, k2, k3, hcell 0 (by omega), hcell 1 (by omega), hcell 2 (by omega), hcell 3 (by omega)⟩
      obtain ⟨_, _, _, _, h1, _⟩ := each 0 (by omega)
      have hs : a.spot = none := by simpa [Addr.add] using World.cell?_spot h1
      obtain ⟨b, o, s⟩ := a
      simp only at hs
      subst hs
      refine ⟨_, len, cap, fun i => ⟨intAt w ⟨b, o + i * 4, none⟩, intAt w ⟨b, o + i * 4 + 1, none⟩, intAt w ⟨b, o + i * 4 + 2, none⟩, intAt w ⟨b, o + i * 4 + 3, none⟩⟩, hcs, .inr ⟨b, o, rfl, World.block_lt_of_cell? w _ (by simpa [Addr.add] using h1), fun i hi' => ?_⟩, g1, hin⟩
      obtain ⟨k0, k1, k2, k3, c0, c1, c2, c3⟩ := each i (by omega)
      rw [add_none, add_none] at c0 c1 c2 c3
      simp only [Nat.add_zero] at c0
      simp only [intAt, c0, c1, c2, c3]
      exact ⟨trivial, trivial, trivial, trivial⟩
/-- a shaft, cell by cell -/
theorem sh_fit {t tr ti tI : TypeId} {f0 f1 f2 f3 f4 : Field} {fuel : Nat} {cs : List Value} {x : DataW H × List MemPlace}
    (ht : P.underlying t = some (.struct #[f0, f1, f2, f3, f4])) (hone : oneCellFields P #[f0, f1, f2, f3, f4] = true && (f0.type == tr && f1.type == ti && f2.type == tI && f3.type == tI && f4.type == tI) && P.cellsOf t == 5) (hi : P.underlying tI = some (.int .i64))
    (hR : ∀ (fuel : Nat) (cs : List Value) (x : DataW H × List MemPlace), Fit P tr x.1 → DataW.trod enc P w base sp held fuel tr cs = some x → ∃ A n c f, cs = [.slice A n c] ∧ RocksAt w A n f ∧ n * 32 ≤ 140737488351232 ∧ SliceIn A n c)
    (hF : ∀ (fuel : Nat) (cs : List Value) (x : DataW H × List MemPlace), Fit P ti x.1 → DataW.trod enc P w base sp held fuel ti cs = some x → ∃ A n c g, cs = [.slice A n c] ∧ IntsAt w A n g ∧ SliceIn A n c ∧ n * 8 ≤ 140737488351232)
    (hf : Fit P t x.1) (h : DataW.trod enc P w base sp held fuel t cs = some x) :
    ∃ (Ar Af : Option Addr) (cr cf : Nat) (S : Sh), cs = [.slice Ar S.nr cr, .slice Af S.nf cf, .int .i64 S.deep, .int .i64 S.haul, .int .i64 S.rest] ∧ ShAt w Ar Af S ∧ S.nr * 32 ≤ 140737488351232 ∧ S.nf * 8 ≤ 140737488351232 := by
  simp only [Bool.and_eq_true, beq_iff_eq, decide_eq_true_eq] at hone
  obtain ⟨⟨ho, ⟨⟨⟨e0, e1⟩, e2⟩, e3⟩, e4⟩, hC⟩ := hone
  obtain ⟨xs, n, _, hx, hlen, hxl, hg⟩ := DataW.trod_struct ht h
  obtain ⟨o0, k0⟩ := hone_of ho 0 f0 rfl
  obtain ⟨o1, k1⟩ := hone_of ho 1 f1 rfl
  obtain ⟨o2, k2⟩ := hone_of ho 2 f2 rfl
  obtain ⟨o3, k3⟩ := hone_of ho 3 f3 rfl
  obtain ⟨o4, k4⟩ := hone_of ho 4 f4 rfl
  match cs, hlen.trans hC, xs, hxl with
  | [c0, c1, c2, c3, c4], _, [y0, y1, y2, y3, y4], _ =>
    have g0 := hg 0 f0 rfl
    have g1 := hg 1 f1 rfl
    have g2 := hg 2 f2 rfl
    have g3 := hg 3 f3 rfl
    have g4 := hg 4 f4 rfl
    rw [o0, k0, e0] at g0
    rw [o1, k1, e1] at g1
    rw [o2, k2, e2] at g2
    rw [o3, k3, e3] at g3
    rw [o4, k4, e4] at g4
    simp only [List.drop_zero, List.take_succ_cons, List.take_zero, List.drop_succ_cons, List.getElem?_cons_zero, List.getElem?_cons_succ] at g0 g1 g2 g3 g4
    rw [hx] at hf
    have q0 := fit_part ht hf (j := 0) (f := f0) (d := y0.1) rfl rfl
    have q1 := fit_part ht hf (j := 1) (f := f1) (d := y1.1) rfl rfl
    rw [e0] at q0
    rw [e1] at q1
    obtain ⟨A, nr, cr, rock, h0, hr, hr2, _⟩ := hR _ _ _ q0 g0
    obtain ⟨B, nf, cf, foot, h1, hft, _, hf2⟩ := hF _ _ _ q1 g1
    obtain ⟨a, h2, _⟩ := DataW.trod_int hi g2
    obtain ⟨b, h3, _⟩ := DataW.trod_int hi g3
    obtain ⟨c, h4, _⟩ := DataW.trod_int hi g4
    injection h0 with h0
    injection h1 with h1
    injection h2 with h2
    injection h3 with h3
    injection h4 with h4
    subst h0 h1 h2 h3 h4
    exact ⟨A, B, cr, cf, ⟨nr, rock, nf, foot, a, b, c⟩, rfl, ⟨hr, hft⟩, hr2, hf2⟩
/-- a spot, cell by cell -/
theorem spot_fit {t ts tl tI : TypeId} {f0 f1 f2 : Field} {fuel : Nat} {cs : List Value} {x : DataW H × List MemPlace}
    (ht : P.underlying t = some (.struct #[f0, f1, f2])) (hone : (f0.offset == 0 && P.cellsOf f0.type == 1 && f0.type == tI && f1.offset == 1 && P.cellsOf f1.type == 5 && f1.type == ts && f2.offset == 6 && P.cellsOf f2.type == 1 && f2.type == tl && P.cellsOf t == 7) = true) (hi : P.underlying tI = some (.int .i64))
    (hS : ∀ (fuel : Nat) (cs : List Value) (x : DataW H × List MemPlace), Fit P ts x.1 → DataW.trod enc P w base sp held fuel ts cs = some x → ∃ (Ar Af : Option Addr) (cr cf : Nat) (S : Sh), cs = [.slice Ar S.nr cr, .slice Af S.nf cf, .int .i64 S.deep, .int .i64 S.haul, .int .i64 S.rest] ∧ ShAt w Ar Af S ∧ S.nr * 32 ≤ 140737488351232 ∧ S.nf * 8 ≤ 140737488351232)
    (hF : ∀ (fuel : Nat) (cs : List Value) (x : DataW H × List MemPlace), Fit P tl x.1 → DataW.trod enc P w base sp held fuel tl cs = some x → ∃ A c y, cs = [.slice A (Wd.n y) c] ∧ RowsAt w A y ∧ y.Fits ∧ SliceIn A y.n c)
    (hf : Fit P t x.1) (h : DataW.trod enc P w base sp held fuel t cs = some x) :
    ∃ (Ar Af Aw : Option Addr) (cr cf cw : Nat) (y : Spot), cs = [.int .i64 y.at_, .slice Ar y.sh.nr cr, .slice Af y.sh.nf cf, .int .i64 y.sh.deep, .int .i64 y.sh.haul, .int .i64 y.sh.rest, .slice Aw y.fl.n cw] ∧ ShAt w Ar Af y.sh ∧ RowsAt w Aw y.fl ∧ y.Fits := by
  simp only [Bool.and_eq_true, beq_iff_eq] at hone
  obtain ⟨⟨⟨⟨⟨⟨⟨⟨⟨o0, k0⟩, e0⟩, o1⟩, k1⟩, e1⟩, o2⟩, k2⟩, e2⟩, hC⟩ := hone
  obtain ⟨xs, n, _, hx, hlen, hxl, hg⟩ := DataW.trod_struct ht h
  match cs, hlen.trans hC, xs, hxl with
  | [c0, c1, c2, c3, c4, c5, c6], _, [y0, y1, y2], _ =>
    have g0 := hg 0 f0 rfl
    have g1 := hg 1 f1 rfl
    have g2 := hg 2 f2 rfl
    rw [o0, k0, e0] at g0
    rw [o1, k1, e1] at g1
    rw [o2, k2, e2] at g2
    simp only [List.drop_zero, List.take_succ_cons, List.take_zero, List.drop_succ_cons, List.getElem?_cons_zero, List.getElem?_cons_succ] at g0 g1 g2
    rw [hx] at hf
    have q1 := fit_part ht hf (j := 1) (f := f1) (d := y1.1) rfl rfl
    have q2 := fit_part ht hf (j := 2) (f := f2) (d := y2.1) rfl rfl
    rw [e1] at q1
    rw [e2] at q2
    obtain ⟨a, h0, _⟩ := DataW.trod_int hi g0
    obtain ⟨Ar, Af, cr, cf, S, h1, hs, hs1, hs2⟩ := hS _ _ _ q1 g1
    obtain ⟨A, c, y, h2, hr, hr2, _⟩ := hF _ _ _ q2 g2
    simp only [List.cons.injEq, and_true] at h0 h1 h2
    obtain ⟨rfl, rfl, rfl, rfl, rfl⟩ := h1
    subst h0 h2
    exact ⟨Ar, Af, A, cr, cf, c, ⟨a, S, y⟩, rfl, hs, hr, ⟨hs1, hs2, hr2⟩⟩
theorem spots_fit {t e : TypeId} {fuel : Nat} {cs : List Value} {x : DataW H × List MemPlace} (ht : P.underlying t = some (.slice e)) (hC : P.cellsOf e = 7) (hbe : P.bytesOf e = 104)
    (hS : ∀ (fuel : Nat) (cs : List Value) (x : DataW H × List MemPlace), Fit P e x.1 → DataW.trod enc P w base sp held fuel e cs = some x → ∃ (Ar Af Aw : Option Addr) (cr cf cw : Nat) (y : Spot), cs = [.int .i64 y.at_, .slice Ar y.sh.nr cr, .slice Af y.sh.nf cf, .int .i64 y.sh.deep, .int .i64 y.sh.haul, .int .i64 y.sh.rest, .slice Aw y.fl.n cw] ∧ ShAt w Ar Af y.sh ∧ RowsAt w Aw y.fl ∧ y.Fits)
    (hf : Fit P t x.1) (h : DataW.trod enc P w base sp held fuel t cs = some x) : ∃ A n c f, cs = [.slice A n c] ∧ SpotsAt w A n f ∧ (∀ i, i < n → (f i).Fits) ∧ n * 104 ≤ 140737488351232 ∧ SliceIn A n c := by
  haveI : Inhabited Spot := ⟨⟨0, ⟨0, fun _ => default, 0, fun _ => 0, 0, 0, 0⟩, ⟨0, fun _ => 0, fun _ _ => 0⟩⟩⟩
  rcases open_slice ht h with ⟨h0, _⟩ | ⟨a, len, cap, m, n, D, Pl, hcs, hb, hl, hm, hmm, hx, hel⟩
  · exact ⟨none, 0, 0, fun _ => default, h0, .inl rfl, (fun i hi => absurd hi (Nat.not_lt_zero _)), by decide, Nat.le_refl _, by omega, fun _ => ⟨rfl, rfl⟩⟩
  · have hlm : len ≤ m := by rw [hmm]; split <;> omega
    have hin : SliceIn (some a) len cap := ⟨hl, by unfold maxLen at hm; exact hm, fun h => by cases h⟩
    have hf' : Fit P t (.slice ((List.range len).map D) ((List.range (m - len)).map fun j => D (len + j))) := by rw [hx] at hf; exact hf
    obtain ⟨g1, g2⟩ := fit_slice ht hf'
    rw [hbe] at g1
    rw [hC] at hel
    rcases Nat.eq_zero_or_pos len with h0 | h0
    · subst h0; exact ⟨_, 0, cap, fun _ => default, hcs, .inl rfl, (fun i hi => absurd hi (Nat.not_lt_zero _)), by decide, hin⟩
    · have each : ∀ i, i < len → ∃ (y : Spot), (∃ (Ar Af Aw : Option Addr) (cr cf cw : Nat), ShAt w Ar Af y.sh ∧ RowsAt w Aw y.fl ∧ w.cell? ((a.add (i * 7)).add 0) = some (.int .i64 y.at_) ∧ w.cell? ((a.add (i * 7)).add 1) = some (.slice Ar y.sh.nr cr) ∧ w.cell? ((a.add (i * 7)).add 2) = some (.slice Af y.sh.nf cf) ∧ w.cell? ((a.add (i * 7)).add 3) = some (.int .i64 y.sh.deep) ∧ w.cell? ((a.add (i * 7)).add 4) = some (.int .i64 y.sh.haul) ∧ w.cell? ((a.add (i * 7)).add 5) = some (.int .i64 y.sh.rest) ∧ w.cell? ((a.add (i * 7)).add 6) = some (.slice Aw y.fl.n cw)) ∧ y.Fits := fun i him => by
        obtain ⟨cs', h1, h2⟩ := hel i (by omega)
        obtain ⟨_, hlen, hcell⟩ := World.cells?_some h1
        obtain ⟨Ar, Af, Aw, cr, cf, cw, y, rfl, hs, hr, hy⟩ := hS _ _ _ (g2 i him) h2
        exact ⟨y, ⟨Ar, Af, Aw, cr, cf, cw, hs, hr, hcell 0 (by omega), hcell 1 (by omega), hcell 2 (by omega), hcell 3 (by omega), hcell 4 (by omega), hcell 5 (by omega), hcell 6 (by omega)⟩, hy⟩
      obtain ⟨_, ⟨_, _, _, _, _, _, _, _, h1, _⟩, _⟩ := each 0 h0
      have hs : a.spot = none := by simpa [Addr.add] using World.cell?_spot h1
      obtain ⟨b, o, s⟩ := a
      simp only at hs
      subst hs
      obtain ⟨G, hG⟩ := choose_lt each
      refine ⟨_, len, cap, G, hcs, .inr ⟨b, o, rfl, World.block_lt_of_cell? w _ (by simpa [Addr.add] using h1), fun i hi' => ?_⟩, fun i hi' => (hG i hi').2, g1, hin⟩
      obtain ⟨⟨Ar, Af, Aw, cr, cf, cw, hs, hr, c0, c1, c2, c3, c4, c5, c6⟩, _⟩ := hG i hi'
      rw [add_none, add_none] at c0 c1 c2 c3 c4 c5 c6
      exact ⟨Ar, Af, Aw, cr, cf, cw, hs, hr, c0, c1, c2, c3, c4, c5, c6⟩
/-- a town, cell by cell -/
theorem qtown_fit {t ts tl tI : TypeId} {f0 f1 f2 : Field} {fuel : Nat} {cs : List Value} {x : DataW H × List MemPlace}
    (ht : P.underlying t = some (.struct #[f0, f1, f2])) (hone : oneCellFields P #[f0, f1, f2] = true && (f0.type == tI && f1.type == ts && f2.type == tl) && P.cellsOf t == 3) (hi : P.underlying tI = some (.int .i64))
    (hR : ∀ (fuel : Nat) (cs : List Value) (x : DataW H × List MemPlace), Fit P ts x.1 → DataW.trod enc P w base sp held fuel ts cs = some x → ∃ A n c f, cs = [.slice A n c] ∧ WorldsAt w A n f ∧ (∀ i, i < n → (f i).Fits) ∧ n * 24 ≤ 140737488351232 ∧ SliceIn A n c)
    (hF : ∀ (fuel : Nat) (cs : List Value) (x : DataW H × List MemPlace), Fit P tl x.1 → DataW.trod enc P w base sp held fuel tl cs = some x → ∃ A n c f, cs = [.slice A n c] ∧ FactsAt w A n f ∧ n * 40 ≤ 140737488351232 ∧ SliceIn A n c)
    (hf : Fit P t x.1) (h : DataW.trod enc P w base sp held fuel t cs = some x) :
    ∃ (Aw Af : Option Addr) (cw cf : Nat) (q : Qt), cs = [.int .i64 q.wells, .slice Aw q.nw cw, .slice Af q.nf cf] ∧ QAt w Aw Af q ∧ q.Fits := by
  simp only [Bool.and_eq_true, beq_iff_eq, decide_eq_true_eq] at hone
  obtain ⟨⟨ho, ⟨e0, e1⟩, e2⟩, hC⟩ := hone
  obtain ⟨xs, n, _, hx, hlen, hxl, hg⟩ := DataW.trod_struct ht h
  obtain ⟨o0, k0⟩ := hone_of ho 0 f0 rfl
  obtain ⟨o1, k1⟩ := hone_of ho 1 f1 rfl
  obtain ⟨o2, k2⟩ := hone_of ho 2 f2 rfl
  match cs, hlen.trans hC, xs, hxl with
  | [c0, c1, c2], _, [y0, y1, y2], _ =>
    have g0 := hg 0 f0 rfl
    have g1 := hg 1 f1 rfl
    have g2 := hg 2 f2 rfl
    rw [o0, k0, e0] at g0
    rw [o1, k1, e1] at g1
    rw [o2, k2, e2] at g2
    simp only [List.drop_zero, List.take_succ_cons, List.take_zero, List.drop_succ_cons, List.getElem?_cons_zero, List.getElem?_cons_succ] at g0 g1 g2
    rw [hx] at hf
    have q1 := fit_part ht hf (j := 1) (f := f1) (d := y1.1) rfl rfl
    have q2 := fit_part ht hf (j := 2) (f := f2) (d := y2.1) rfl rfl
    rw [e1] at q1
    rw [e2] at q2
    obtain ⟨a, h0, _⟩ := DataW.trod_int hi g0
    obtain ⟨A, nw, kw, fw, h1, hs, hs2, hs3, _⟩ := hR _ _ _ q1 g1
    obtain ⟨B, nf, kf, ff, h2, hl, hl2, _⟩ := hF _ _ _ q2 g2
    injection h0 with h0
    injection h1 with h1
    injection h2 with h2
    subst h0 h1 h2
    exact ⟨A, B, kw, kf, ⟨a, nw, fw, nf, ff⟩, rfl, ⟨hs, hl⟩, ⟨hs3, hl2, hs2⟩⟩
theorem place_in' {v : Value} {d : DataW H} {p : List MemPlace} {t tq tn ts tI : TypeId} {f0 f1 f2 f3 f4 f5 f6 : Field}
    (ht : P.underlying t = some (.struct #[f0, f1, f2, f3, f4, f5, f6])) (hone : (f0.offset == 0 && P.cellsOf f0.type == 3 && f0.type == tq && f1.offset == 3 && P.cellsOf f1.type == 1 && f1.type == tn && f2.offset == 4 && P.cellsOf f2.type == 1 && f2.type == tn && f3.offset == 5 && P.cellsOf f3.type == 1 && f3.type == ts && f4.offset == 6 && P.cellsOf f4.type == 1 && f4.type == tI && f5.offset == 7 && P.cellsOf f5.type == 1 && f5.type == tI && f6.offset == 8 && P.cellsOf f6.type == 1 && f6.type == tI && P.cellsOf t == 9) = true) (hi : P.underlying tI = some (.int .i64))
    (hQ : ∀ (fuel : Nat) (cs : List Value) (x : DataW H × List MemPlace), Fit P tq x.1 → DataW.trod enc P w base sp held fuel tq cs = some x → ∃ (Aw Af : Option Addr) (cw cf : Nat) (q : Qt), cs = [.int .i64 q.wells, .slice Aw q.nw cw, .slice Af q.nf cf] ∧ QAt w Aw Af q ∧ q.Fits)
    (hI : ∀ (fuel : Nat) (cs : List Value) (x : DataW H × List MemPlace), Fit P tn x.1 → DataW.trod enc P w base sp held fuel tn cs = some x → ∃ A n c g, cs = [.slice A n c] ∧ IntsAt w A n g ∧ SliceIn A n c ∧ n * 8 ≤ 140737488351232)
    (hS : ∀ (fuel : Nat) (cs : List Value) (x : DataW H × List MemPlace), Fit P ts x.1 → DataW.trod enc P w base sp held fuel ts cs = some x → ∃ A n c f, cs = [.slice A n c] ∧ SpotsAt w A n f ∧ (∀ i, i < n → (f i).Fits) ∧ n * 104 ≤ 140737488351232 ∧ SliceIn A n c)
    (hv : Value.okWide P w r b0 t v) (hf : Fit P t d) (h : DataW.Trod enc P w base sp held t v d p) :
    ∃ (Aw Af Ao Ap As : Option Addr) (cw cf co cp cs : Nat) (t : Pt), v = .agg #[.int .i64 t.q.wells, .slice Aw t.q.nw cw, .slice Af t.q.nf cf, .slice Ao t.no co, .slice Ap t.np cp, .slice As t.ns cs, .int .i64 t.far, .int .i64 t.harm, .int .i64 t.many] ∧ PAt w Aw Af Ao Ap As t ∧ t.Fits := by
  simp only [Bool.and_eq_true, beq_iff_eq] at hone
  obtain ⟨⟨⟨⟨⟨⟨⟨⟨⟨⟨⟨⟨⟨⟨⟨⟨⟨⟨⟨⟨⟨o0, k0⟩, e0⟩, o1⟩, k1⟩, e1⟩, o2⟩, k2⟩, e2⟩, o3⟩, k3⟩, e3⟩, o4⟩, k4⟩, e4⟩, o5⟩, k5⟩, e5⟩, o6⟩, k6⟩, e6⟩, hC⟩ := hone
  obtain ⟨cs, rfl, hsz⟩ := okWide_struct ht hv
  obtain ⟨l⟩ := cs
  obtain ⟨fuel, hf'⟩ := h
  obtain ⟨xs, n, _, hx, hlen, hxl, hg⟩ := DataW.trod_struct ht hf'
  match l, hsz.trans hC, xs, hxl with
  | [c0, c1, c2, c3, c4, c5, c6, c7, c8], _, [y0, y1, y2, y3, y4, y5, y6], _ =>
    have g0 := hg 0 f0 rfl
    have g1 := hg 1 f1 rfl
    have g2 := hg 2 f2 rfl
    have g3 := hg 3 f3 rfl
    have g4 := hg 4 f4 rfl
    have g5 := hg 5 f5 rfl
    have g6 := hg 6 f6 rfl
    rw [o0, k0, e0] at g0
    rw [o1, k1, e1] at g1
    rw [o2, k2, e2] at g2
    rw [o3, k3, e3] at g3
    rw [o4, k4, e4] at g4
    rw [o5, k5, e5] at g5
    rw [o6, k6, e6] at g6
    simp only [Value.cells, List.drop_zero, List.take_succ_cons, List.take_zero, List.drop_succ_cons, List.getElem?_cons_zero, List.getElem?_cons_succ] at g0 g1 g2 g3 g4 g5 g6
    have hd : d = .agg [y0.1, y1.1, y2.1, y3.1, y4.1, y5.1, y6.1] := congrArg Prod.fst hx
    rw [hd] at hf
    have q0 := fit_part ht hf (j := 0) (f := f0) (d := y0.1) rfl rfl
    have q1 := fit_part ht hf (j := 1) (f := f1) (d := y1.1) rfl rfl
    have q2 := fit_part ht hf (j := 2) (f := f2) (d := y2.1) rfl rfl
    have q3 := fit_part ht hf (j := 3) (f := f3) (d := y3.1) rfl rfl
    rw [e0] at q0
    rw [e1] at q1
    rw [e2] at q2
    rw [e3] at q3
    obtain ⟨Aw, Af, cw, cf, q, h0, hq, hq2⟩ := hQ _ _ _ q0 g0
    obtain ⟨Ao, no, co, old, h1, ho, _, ho2⟩ := hI _ _ _ q1 g1
    obtain ⟨Ap, np, cp, pence, h2, hp, _, hp2⟩ := hI _ _ _ q2 g2
    obtain ⟨As, ns, cs, spot, h3, hs, hs2, hs3, _⟩ := hS _ _ _ q3 g3
    obtain ⟨a, h4, _⟩ := DataW.trod_int hi g4
    obtain ⟨b, h5, _⟩ := DataW.trod_int hi g5
    obtain ⟨c, h6, _⟩ := DataW.trod_int hi g6
    simp only [List.cons.injEq, and_true] at h0 h1 h2 h3 h4 h5 h6
    obtain ⟨rfl, rfl, rfl⟩ := h0
    subst h1 h2 h3 h4 h5 h6
    exact ⟨Aw, Af, Ao, Ap, As, cw, cf, co, cp, cs, ⟨q, no, old, np, pence, ns, spot, a, b, c⟩, rfl, ⟨hq, ho, hp, hs⟩, ⟨hq2, ho2, hp2, hs3, hs2⟩⟩
end
section
variable {H : Type} {enc : TypeId × Value → H} {W : World} {base b0 : Nat} {r : Reach} {sp : Nat → Bool} {held : Bool}
set_option maxRecDepth 100000 in
theorem spotP_fit {fuel : Nat} {cs : List Value} {x : DataW H × List MemPlace} (hf : Fit Tryz.prog 71 x.1) (h : DataW.trod enc Tryz.prog W base sp held fuel 71 cs = some x) :
    ∃ (Ar Af Aw : Option Addr) (cr cf cw : Nat) (y : Spot), cs = [.int .i64 y.at_, .slice Ar y.sh.nr cr, .slice Af y.sh.nf cf, .int .i64 y.sh.deep, .int .i64 y.sh.haul, .int .i64 y.sh.rest, .slice Aw y.fl.n cw] ∧ ShAt W Ar Af y.sh ∧ RowsAt W Aw y.fl ∧ y.Fits :=
  spot_fit Tryz.underlying71 (by kernel_rfl) Tryz.underlying3 (fun _ _ _ hf h => sh_fit Tryz.underlying68 (by kernel_rfl) Tryz.underlying3 (fun _ _ _ hf h => rocks_fit Tryz.underlying66 Tryz.underlying190 (by kernel_rfl) Tryz.underlying3 (by kernel_rfl) hf h) (fun _ _ _ hf h => ints_fit Tryz.underlying34 Tryz.underlying3 (by kernel_rfl) (by kernel_rfl) hf h) hf h) (fun _ _ _ hf h => rows_fit Tryz.underlying69 Tryz.underlying34 Tryz.underlying3 (by kernel_rfl) hf h) hf h
set_option maxRecDepth 100000 in
theorem place_in {v : Value} {d : DataW H} {p : List MemPlace} (hv : Value.okWide Tryz.prog W r b0 62 v) (hf : Fit Tryz.prog 62 d) (h : DataW.Trod enc Tryz.prog W base sp held 62 v d p) :
    ∃ (Aw Af Ao Ap As : Option Addr) (cw cf co cp cs : Nat) (t : Pt), v = .agg #[.int .i64 t.q.wells, .slice Aw t.q.nw cw, .slice Af t.q.nf cf, .slice Ao t.no co, .slice Ap t.np cp, .slice As t.ns cs, .int .i64 t.far, .int .i64 t.harm, .int .i64 t.many] ∧ PAt W Aw Af Ao Ap As t ∧ t.Fits :=
  place_in' Tryz.underlying62 (by kernel_rfl) Tryz.underlying3 (fun _ _ _ hf h => qtown_fit Tryz.underlying25 (by kernel_rfl) Tryz.underlying3 (fun _ _ _ hf h => worlds_fit Tryz.underlying22 Tryz.underlying101 Tryz.underlying69 Tryz.underlying34 Tryz.underlying3 (by kernel_rfl) hf h) (fun _ _ _ hf h => facts_fit Tryz.underlying23 Tryz.underlying27 (by kernel_rfl) Tryz.underlying3 (by kernel_rfl) hf h) hf h)
    (fun _ _ _ hf h => ints_fit Tryz.underlying34 Tryz.underlying3 (by kernel_rfl) (by kernel_rfl) hf h) (fun _ _ _ hf h => spots_fit Tryz.underlying60 (by kernel_rfl) (by kernel_rfl) (fun _ _ _ hf h => spotP_fit hf h) hf h) hv hf h
end
theorem gNone : Tryz.prog.globalNamed "steening/shafts.none" = some 0 := by kernel_rfl
theorem tNone : (Tryz.prog.globals[0]?).map (·.type) = some 198 := by kernel_rfl
theorem laid_both {W : World} (h : laidMetH Tryz.prog [("math/bits.deBruijn32tab", Rows.laid_math_bits_deBruijn32tab), ("math/bits.deBruijn64tab", Rows.laid_math_bits_deBruijn64tab), ("steening/shafts.none", Rows.laid_steening_shafts_none)] W) : TabAt W ∧ NoneAt W := by
  rw [MakeChecks.laidMetH_plain _ _ _ (by kernel_rfl)] at h
  obtain ⟨ps, ⟨g0, t0, cs0, f0, p0, q0, _, _, _, _, ⟨g1, t1, cs1, f1, p1, q1, hg1, ht1, hv1, hd1, ⟨g2, t2, cs2, f2, p2, q2, hg2, ht2, hv2, hd2, _⟩, _⟩, _⟩, _, _⟩ := h
  obtain rfl := Option.some.inj (gTab.symm.trans hg1)
  obtain rfl := Option.some.inj (tTab.symm.trans ht1)
  obtain rfl := Option.some.inj (gNone.symm.trans hg2)
  obtain rfl := Option.some.inj (tNone.symm.trans ht2)
  have hc : ∀ i, W.cell? ⟨2, i, none⟩ = cs1[i]? := fun i => World.var?_cell gTab hv1 i
  have key : ∀ (j : Nat) (v : Int), j < 64 → (match (Rows.laid_math_bits_deBruijn64tab : DataW Unit) with | .agg ds => ds[j]? | _ => none) = some (.lit (.int .u8 v)) → W.cell? ⟨2, j, none⟩ = some (.int .u8 v) := fun j v hj hd => by
    rw [hc j, ← Array.getElem?_toList]
    exact bytes_in Tryz.underlying259 Tryz.underlying5 (by kernel_rfl) hd1 rfl hj hd
  obtain ⟨a, b, c, e, hx⟩ := three_ints Tryz.underlying198 (by kernel_rfl) Tryz.underlying3 hd2
  have hx1 := congrArg Prod.fst hx
  unfold Rows.laid_steening_shafts_none at hx1
  simp only [DataW.agg.injEq, List.cons.injEq, DataW.lit.injEq, Lit.int.injEq, true_and, and_true] at hx1
  obtain ⟨rfl, rfl, rfl⟩ := hx1
  have hc2 : ∀ i, W.cell? ⟨0, i, none⟩ = cs2[i]? := fun i => World.var?_cell gNone hv2 i
  have hl : cs2 = #[.int .i64 (-1), .int .i64 0, .int .i64 0] := by
    cases cs2
    simp only at e
    rw [e]
  rw [hl] at hc2
  refine ⟨⟨World.block_lt_of_cell? W ⟨2, 0, none⟩ (key 0 0 (by decide) rfl), fun j hj => ?_⟩, ⟨World.block_lt_of_cell? W ⟨0, 0, none⟩ (hc2 0), hc2 0, hc2 1, hc2 2⟩⟩
  match j, hj with
  | 0, _ => exact key 0 0 (by decide) rfl
  | 1, _ => exact key 1 1 (by decide) rfl
  | 2, _ => exact key 3 2 (by decide) rfl
  | 3, _ => exact key 7 3 (by decide) rfl
  | 4, _ => exact key 15 4 (by decide) rfl
  | 5, _ => exact key 31 5 (by decide) rfl
theorem door_metP (os : Os) (args : Array Value) : laidMetH Tryz.prog [("math/bits.deBruijn32tab", Rows.laid_math_bits_deBruijn32tab), ("math/bits.deBruijn64tab", Rows.laid_math_bits_deBruijn64tab), ("steening/shafts.none", Rows.laid_steening_shafts_none)] ((World.doorLaid Tryz.prog 400 os).forCall (fun _ _ => 0) ⟨#[], args, []⟩).memory :=
  laidMetH_of_parts3 (fuel := 8) (laidMet_of_run' 8 (by kernel_rfl) (by kernel_rfl)) (by kernel_rfl) (by kernel_rfl)
end Go.Proofs.YthnojgdckkdcgaaGreatDoor

namespace Go.Proofs.YthnojgdckkdcgaaGreatDoor
open Go.RowKit
theorem bandP {a b : Bool} (h : a = true) (k : b = true) : (a && b) = true := by rw [h, k]; rfl
theorem mayP : Tryz.pinned.checked.prog.mayEnter = true := by kernel_rfl
theorem liftsP : (false == Tryz.pinned.checked.prog.liftsFinal) = true := by kernel_rfl
theorem makeP : (Tryz.pinned.checked.prog.make == some .cut) = true := by kernel_rfl
theorem mainP : Tryz.pinned.checked.prog.mainIs = some (true, "be4817d901a3592be5ffe04929981df5e9fc1cead1a3ca6f8071c08015b421ea".toList) := by kernel_rfl
theorem looksP : false = Tryz.pinned.checked.prog.looks [] := by kernel_rfl
end Go.Proofs.YthnojgdckkdcgaaGreatDoor

