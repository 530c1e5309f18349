/- Rows of cells that are read, and copied by append onto an empty slice. No condition but that lengths are small. -/
import Derived.Test.YtbbnpneabmldnaaDoorInts
namespace Go.Proofs.YtbbnpneabmldnaaDoor
open Go.RowKit Go.Sort
def RowAt (w : World) (A : Option Addr) (L : List Value) : Prop := L = [] ∨ ∃ b o, A = some ⟨b, o, none⟩ ∧ b < w.heap.size ∧ ∀ j v, L[j]? = some v → w.cell? ⟨b, o + j, none⟩ = some v
theorem RowAt.mono {w w' : World} {A : Option Addr} {L : List Value} (h : RowAt w A L) (hb : Below w.heap.size w w') : RowAt w' A L := by
  rcases h with h | ⟨b, o, rfl, hlt, hc⟩
  · exact .inl h
  · exact .inr ⟨b, o, rfl, Nat.lt_of_lt_of_le hlt hb.size, fun j v hj => (hb.cell (p := ⟨b, o + j, none⟩) hlt).trans (hc j v hj)⟩
theorem intsAt_row {w : World} {A : Option Addr} {n : Nat} {g : Nat → Int} : IntsAt w A n g ↔ RowAt w A (intL g n) := by
  constructor
  · rintro (rfl | ⟨b, o, rfl, hlt, hc⟩)
    · exact .inl rfl
    · refine .inr ⟨b, o, rfl, hlt, fun j v hj => ?_⟩
      have hjn : j < n := by
        have := (List.getElem?_eq_some_iff.1 hj).1
        rwa [intL_len] at this
      rw [intL_get g hjn] at hj
      injection hj with hj
      subst hj
      exact hc j hjn
  · rintro (h | ⟨b, o, rfl, hlt, hc⟩)
    · left
      have := congrArg List.length h
      rwa [intL_len] at this
    · exact .inr ⟨b, o, rfl, hlt, fun i hi => hc i _ (intL_get g hi)⟩
def rockL (f : Nat → Rock) : Nat → List Value
  | 0 => []
  | n + 1 => rockL f n ++ [.int .i64 (f n).hours, .int .i64 (f n).pence, .int .i64 (f n).stand, .int .i64 (f n).seat]
theorem rockL_len (f : Nat → Rock) (n : Nat) : (rockL f n).length = n * 4 := by
  induction n with
  | zero => rfl
  | succ n ih => simp only [rockL, List.length_append, ih, List.length_cons, List.length_nil]; omega
theorem rockL_get (f : Nat → Rock) {n i : Nat} (h : i < n) : (rockL f n)[i * 4]? = some (.int .i64 (f i).hours) ∧ (rockL f n)[i * 4 + 1]? = some (.int .i64 (f i).pence) ∧ (rockL f n)[i * 4 + 2]? = some (.int .i64 (f i).stand) ∧ (rockL f n)[i * 4 + 3]? = some (.int .i64 (f i).seat) := by
  induction n with
  | zero => omega
  | succ n ih =>
    have hl := rockL_len f n
    rcases Nat.lt_or_ge i n with h1 | h1
    · obtain ⟨a, b, c, d⟩ := ih h1
      simp only [rockL]
      refine ⟨?_, ?_, ?_, ?_⟩ <;> rw [List.getElem?_append_left (by omega)] <;> assumption
    · obtain rfl : i = n := by omega
      simp only [rockL]
      refine ⟨?_, ?_, ?_, ?_⟩ <;> rw [List.getElem?_append_right (by omega), hl] <;> simp
theorem rockL_inv (f : Nat → Rock) {n j : Nat} {v : Value} (h : (rockL f n)[j]? = some v) : ∃ i, i < n ∧ ((j = i * 4 ∧ v = .int .i64 (f i).hours) ∨ (j = i * 4 + 1 ∧ v = .int .i64 (f i).pence) ∨ (j = i * 4 + 2 ∧ v = .int .i64 (f i).stand) ∨ (j = i * 4 + 3 ∧ v = .int .i64 (f i).seat)) := by
  have hj : j < n * 4 := by
    have := (List.getElem?_eq_some_iff.1 h).1
    rwa [rockL_len] at this
  obtain ⟨a, b, c, d⟩ := rockL_get f (n := n) (i := j / 4) (by omega)
  refine ⟨j / 4, by omega, ?_⟩
  rcases (by omega : j = j / 4 * 4 ∨ j = j / 4 * 4 + 1 ∨ j = j / 4 * 4 + 2 ∨ j = j / 4 * 4 + 3) with e | e | e | e
  · rw [← e, h] at a; exact .inl ⟨e, by simpa using a⟩
  · rw [← e, h] at b; exact .inr (.inl ⟨e, by simpa using b⟩)
  · rw [← e, h] at c; exact .inr (.inr (.inl ⟨e, by simpa using c⟩))
  · rw [← e, h] at d; exact .inr (.inr (.inr ⟨e, by simpa using d⟩))
theorem rockL_one (f : Nat → Rock) (n : Nat) : ∀ v ∈ rockL f n, v.oneCell' = true := by
  intro v hv
  obtain ⟨j, hj, e⟩ := List.getElem_of_mem hv
  obtain ⟨i, _, h⟩ := rockL_inv f (n := n) (j := j) (v := v) (by rw [List.getElem?_eq_getElem hj, e])
  rcases h with ⟨_, rfl⟩ | ⟨_, rfl⟩ | ⟨_, rfl⟩ | ⟨_, rfl⟩ <;> rfl
theorem rocksAt_row {w : World} {A : Option Addr} {n : Nat} {f : Nat → Rock} : RocksAt w A n f ↔ RowAt w A (rockL f n) := by
  constructor
  · rintro (rfl | ⟨b, o, rfl, hlt, hc⟩)
    · exact .inl rfl
    · refine .inr ⟨b, o, rfl, hlt, fun j v hj => ?_⟩
      obtain ⟨i, hi, h⟩ := rockL_inv f hj
      obtain ⟨c0, c1, c2, c3⟩ := hc i hi
      rcases h with ⟨rfl, rfl⟩ | ⟨rfl, rfl⟩ | ⟨rfl, rfl⟩ | ⟨rfl, rfl⟩
      · exact c0
      · exact c1
      · exact c2
      · exact c3
  · rintro (h | ⟨b, o, rfl, hlt, hc⟩)
    · left
      have := congrArg List.length h
      rw [rockL_len] at this
      simp at this; omega
    · refine .inr ⟨b, o, rfl, hlt, fun i hi => ?_⟩
      obtain ⟨a0, a1, a2, a3⟩ := rockL_get f hi
      exact ⟨hc _ _ a0, hc _ _ a1, hc _ _ a2, hc _ _ a3⟩
/-- a row that the call has made: where it lies, that it may be written -/
def Fresh (w : World) (base : Nat) (A : Option Addr) (n c : Nat) : Prop := n ≤ c ∧ c ≤ 9223372036854775807 ∧ (∃ p, A = some p ∧ base ≤ p.block) ∧ (0 < n → ∃ b, A = some ⟨b, 0, none⟩ ∧ b < w.heap.size ∧ ∀ j, w.frozen? ⟨b, j, none⟩ = false)
theorem Fresh.mono {w w' : World} {base : Nat} {A : Option Addr} {n c : Nat} (h : Fresh w base A n c) (hb : Below w.heap.size w w') : Fresh w' base A n c := by
  obtain ⟨h1, h2, h3, h4⟩ := h
  refine ⟨h1, h2, h3, fun hn => ?_⟩
  obtain ⟨b, e, hlt, hf⟩ := h4 hn
  exact ⟨b, e, Nat.lt_of_lt_of_le hlt hb.size, fun j => (hb.frozen (p := ⟨b, j, none⟩) hlt).trans (hf j)⟩
theorem Fresh.base {w : World} {base base' : Nat} {A : Option Addr} {n c : Nat} (h : Fresh w base A n c) (hb : base' ≤ base) : Fresh w base' A n c := by
  obtain ⟨h1, h2, ⟨p, e, h3⟩, h4⟩ := h
  exact ⟨h1, h2, ⟨p, e, by omega⟩, h4⟩
theorem Fresh.ne {w : World} {base : Nat} {A : Option Addr} {n c : Nat} (h : Fresh w base A n c) : A ≠ none := by
  obtain ⟨_, _, ⟨p, e, _⟩, _⟩ := h
  rw [e]; exact fun h => by cases h
/-- what lies from a block on is as it was -/
structure Above (base : Nat) (w w' : World) : Prop where
  size : w.heap.size ≤ w'.heap.size
  cell : ∀ b o, base ≤ b → b < w.heap.size → w'.cell? ⟨b, o, none⟩ = w.cell? ⟨b, o, none⟩
  frozen : ∀ b o, base ≤ b → b < w.heap.size → w'.frozen? ⟨b, o, none⟩ = w.frozen? ⟨b, o, none⟩
theorem Above.refl (base : Nat) (w : World) : Above base w w := ⟨Nat.le_refl _, fun _ _ _ _ => rfl, fun _ _ _ _ => rfl⟩
theorem Above.setCell {base : Nat} {w w' : World} {p : Addr} (hp : p.block < base) (h : Above base w w') (v : Value) : Above base w (w'.setCell p v) :=
  ⟨by simpa [World.setCell] using h.size, fun b o h1 h2 => (World.cell?_setCell_other _ _ _ _ (fun e => by subst e; simp at hp; omega)).trans (h.cell b o h1 h2), fun b o h1 h2 => (World.frozen?_setCell _ _ _ _).trans (h.frozen b o h1 h2)⟩
theorem Above.below {base : Nat} {w w' w'' : World} (h : Above base w w') (hb : Below w'.heap.size w' w'') : Above base w w'' :=
  ⟨Nat.le_trans h.size hb.size, fun b o h1 h2 => (hb.cell (p := ⟨b, o, none⟩) (Nat.lt_of_lt_of_le h2 h.size)).trans (h.cell b o h1 h2), fun b o h1 h2 => (hb.frozen (p := ⟨b, o, none⟩) (Nat.lt_of_lt_of_le h2 h.size)).trans (h.frozen b o h1 h2)⟩
theorem Above.alloc {base : Nat} {w w' : World} (h : Above base w w') (o : Obj) : Above base w (w'.alloc o) := h.below (bAlloc (Below.refl _ _) o)
theorem Above.drew {base : Nat} {w w' : World} (h : Above base w w') : Above base w w'.drew := h.below (bDrew (Below.refl _ _))
theorem RowAt.above {base : Nat} {w w' : World} {A : Option Addr} {L : List Value} (h : RowAt w A L) (ha : Above base w w') (hA : ∀ p, A = some p → base ≤ p.block) : RowAt w' A L := by
  rcases h with h | ⟨b, o, rfl, hlt, hc⟩
  · exact .inl h
  · exact .inr ⟨b, o, rfl, Nat.lt_of_lt_of_le hlt ha.size, fun j v hj => (ha.cell _ _ (hA _ rfl) hlt).trans (hc j v hj)⟩
theorem Fresh.above {base : Nat} {w w' : World} {A : Option Addr} {n c : Nat} (h : Fresh w base A n c) (ha : Above base w w') : Fresh w' base A n c := by
  obtain ⟨h1, h2, h3, h4⟩ := h
  refine ⟨h1, h2, h3, fun hn => ?_⟩
  obtain ⟨b, e, hlt, hf⟩ := h4 hn
  obtain ⟨p, e3, hp⟩ := h3
  have hbb : base ≤ b := by rw [e] at e3; injection e3 with e3; subst e3; exact hp
  exact ⟨b, e, Nat.lt_of_lt_of_le hlt ha.size, fun j => (ha.frozen _ _ hbb hlt).trans (hf j)⟩
theorem Fresh.at_ {base : Nat} {w : World} {A : Option Addr} {n c : Nat} (h : Fresh w base A n c) : ∀ p, A = some p → base ≤ p.block := fun p e => by
  obtain ⟨q, e3, hp⟩ := h.2.2.1
  rw [e] at e3; injection e3 with e3; subst e3; exact hp
/-- 'append([]T{}, xs...)' -/
theorem run_copy_row {P : Program} (w : World) (t ty e : TypeId) (i : TypeInfo) (z : Value) (size bytes : Nat) (ht : P.underlying t = some (.slice e)) (hi : P.info? e = some i) (hz : i.zero = some z) (hsize : i.size = size) (hby : i.bytes = bytes) (hzs : z.cells.size = size) (hsz : 0 < size)
    (ad : Addr) (A : Option Addr) (m c : Nat) (L : List Value) (hl : L.length = m * size) (hr : RowAt w A L) (h1 : ∀ u ∈ L, u.oneCell' = true) (h63 : m ≤ maxLen) (hbytes : m * bytes ≤ 140737488355328) (base : Nat) (hbase : base ≤ w.heap.size) (had : base ≤ ad.block) :
    ∃ A' c' w', (Builtin.append_ #[t, t] ty #[.slice (some ad) 0 0, .slice A m c]).run P w = .ok (.slice A' m c') w' ∧ Below w.heap.size w w' ∧ RowAt w' A' L ∧ Fresh w' base A' m c' := by
  rcases Nat.eq_zero_or_pos m with h0 | h0
  · subst h0
    obtain rfl : L = [] := List.eq_nil_of_length_eq_zero (by simpa using hl)
    refine ⟨some ad, 0, w, ?_, Below.refl _ _, .inl rfl, ⟨Nat.le_refl _, by omega, ⟨ad, rfl, had⟩, fun h => by omega⟩⟩
    cases A with
    | none => simp [Builtin.append_, run_underlying ht, sizeOf, typeInfo, hi, Builtin.lenOf, Builtin.firstCells, storeCells]
    | some a =>
      have hfc := run_firstCells_some (P := P) w i.size 0 a 0 c [] (by simp) (fun j u h => by simp at h)
      simp [Builtin.append_, run_underlying ht, sizeOf, typeInfo, hi, Builtin.lenOf, hfc, storeCells]
  · rcases hr with hr | ⟨b, o, rfl, hlt, hc⟩
    · rw [hr] at hl
      have := Nat.mul_pos h0 hsz
      simp only [List.length_nil] at hl
      omega
    · obtain ⟨v', w', hrun, hown, hg⟩ := run_append_arg_grows (P := P) w t ty e i z size bytes ht hi hz hsize hby hzs hsz ad 0 0 [] (by simp) (fun j u h => by simp at h) ⟨b, o, none⟩ m c L hl (fun j u h => by
        rw [show (⟨b, o, none⟩ : Addr).add j = ⟨b, o + j, none⟩ from by unfold Addr.add; split <;> simp_all]; exact hc j u h) (by omega) (by omega) (by simpa using hbytes)
      simp only [List.nil_append, Nat.zero_add] at hown
      rcases id hown.2 with ⟨_, h0'⟩ | ⟨g, cap, cur, hv, hb, _, h5, h6, _⟩
      · rw [h0'] at hl; simp at hl; omega
      · subst hv
        refine ⟨_, _, w', hrun, below_grown hg, .inr ⟨g, 0, rfl, (hown.lt g rfl).2, fun j u hj => ?_⟩, ⟨h5, by unfold maxLen at h6; exact h6, ⟨_, rfl, by simp; omega⟩, fun _ => ⟨g, rfl, (hown.lt g rfl).2, fun j => hown.frozenAt j⟩⟩⟩
        have := hown.cells (g := g) rfl j u hj
        rwa [show (⟨g, 0, none⟩ : Addr).add j = ⟨g, 0 + j, none⟩ from by unfold Addr.add; split <;> simp_all] at this
/-- the same at a step of a region -/
theorem held_copy_row {P : Program} {o : Oper} {a : Act} (w : World) (s x : Operand) (t : TypeId) (hop : o.op = Op.call { callee := Callee.builtin Builtin.append, args := #[s, x], argTypes := #[t, t] })
    (e : TypeId) (z : Value) (size bytes : Nat) (hinfo : (P.info? e).map (fun i => (i.zero, i.size, i.bytes)) = some (some z, size, bytes)) (ht : P.underlying t = some (.slice e)) (hzs : z.cells.size = size) (hsz : 0 < size)
    (ad : Addr) (A : Option Addr) (m c : Nat) (L : List Value) (hs : a.eval s = .slice (some ad) 0 0) (hx : a.eval x = .slice A m c) (hl : L.length = m * size) (hr : RowAt w A L) (h1 : ∀ u ∈ L, u.oneCell' = true) (h63 : m ≤ 1000000) (hby : bytes ≤ 1000000) (base : Nat) (hbase : base ≤ w.heap.size) (had : base ≤ ad.block)
    (r : World → Value → Prop) (hK : ∀ A' c' w', RowAt w' A' L → Fresh w' base A' m c' → r w' (.slice A' m c')) : Oper.heldAt P o a w r := by
  obtain ⟨i0, hi, iz0, iz1, iz2⟩ := info_parts hinfo
  have hbytes : m * bytes ≤ 140737488355328 := Nat.le_trans (Nat.mul_le_mul h63 hby) (by decide)
  obtain ⟨A', c', w', hrun, hb, hrow, hf⟩ := run_copy_row (P := P) w t o.type e i0 z size bytes ht hi iz0 iz1 iz2 hzs hsz ad A m c L hl hr h1 (by unfold maxLen; omega) hbytes base hbase had
  unfold Oper.heldAt
  simp only [execOp, hop, resolve, invoke, builtin, List.map_toArray, List.map_cons, List.map_nil, hs, hx, hrun, Result.andThen, Sem.run_bind, Sem.run_pure, Oper.heldUpon]
  exact ⟨hb, hK _ _ _ hrow hf⟩
/-- the same in the order of the text -/
theorem wpList_copy_row {P : Program} (w : World) {ops : Array Oper} {rest : List Oper} {o : Oper} {a : Act} {Q : Exit → Act → World → Prop} (hg : o.guard = none) (s x : Operand) (t : TypeId) (hop : o.op = Op.call { callee := Callee.builtin Builtin.append, args := #[s, x], argTypes := #[t, t] })
    (e : TypeId) (z : Value) (size bytes : Nat) (hinfo : (P.info? e).map (fun i => (i.zero, i.size, i.bytes)) = some (some z, size, bytes)) (ht : P.underlying t = some (.slice e)) (hzs : z.cells.size = size) (hsz : 0 < size)
    (ad : Addr) (A : Option Addr) (m c : Nat) (L : List Value) (hs : a.eval s = .slice (some ad) 0 0) (hx : a.eval x = .slice A m c) (hl : L.length = m * size) (hr : RowAt w A L) (h1 : ∀ u ∈ L, u.oneCell' = true) (h63 : m ≤ 1000000) (hby : bytes ≤ 1000000) (base : Nat) (hbase : base ≤ w.heap.size) (had : base ≤ ad.block)
    (hK : ∀ A' c' w', RowAt w' A' L → Fresh w' base A' m c' → Newer w w' → wpList P ops Q rest (a.put o.dst (.slice A' m c')) w') : wpList P ops Q (o :: rest) a w := by
  obtain ⟨i0, hi, iz0, iz1, iz2⟩ := info_parts hinfo
  have hbytes : m * bytes ≤ 140737488355328 := Nat.le_trans (Nat.mul_le_mul h63 hby) (by decide)
  obtain ⟨A', c', w', hrun, hb, hrow, hf⟩ := run_copy_row (P := P) w t o.type e i0 z size bytes ht hi iz0 iz1 iz2 hzs hsz ad A m c L hl hr h1 (by unfold maxLen; omega) hbytes base hbase had
  refine wpList_plain hg fun K hK' => ?_
  unfold Oper.wp
  simp [execOp, hop, resolve, invoke, builtin, hs, hx, hrun, Result.andThen]
  exact hK' _ _ (hK _ _ _ hrow hf hb)
end Go.Proofs.YtbbnpneabmldnaaDoor
