/- Parts joined: what all claims of this seat need. -/
import Derived.Test.YthnojgdckkdcgaaGreatDoorNST
import Derived.Test.YthnojgdckkdcgaaGreatDoorNSU
import Derived.Test.YthnojgdckkdcgaaGreatDoorNSJ
import Derived.Test.YthnojgdckkdcgaaGreatDoorNSQ
set_option linter.unusedSimpArgs false
set_option linter.unusedVariables false
namespace Go.Proofs.YthnojgdckkdcgaaGreatDoor
open Go.RowKit Go.Sort
/-- 'append([]T{}, xs...)' at a step of a region: the copy is the call's own, an empty one too; one that is not empty is new -/
theorem stir_copy4 {P : Program} {o : Oper} {a : Act} (w : World) (s x : Operand) (t : TypeId) (hop : o.op = Op.call { callee := Callee.builtin Builtin.append, args := #[s, x], argTypes := #[t, t] })
    (e : TypeId) (z : Value) (size bytes : Nat) (hinfo : (P.info? e).map (fun i => (i.zero, i.size, i.bytes)) = some (some z, size, bytes)) (ht : P.underlying t = some (.slice e)) (hzs : z.cells.size = size) (hsz : 0 < size)
    (ad : Nat) (A : Option Addr) (m c : Nat) (L : List Value) (hs : a.eval s = .slice (some ⟨ad, 0, none⟩) 0 0) (hx : a.eval x = .slice A m c) (hl : L.length = m * size) (hr : RowAt w A L) (h63 : m ≤ maxLen) (hby : m * bytes ≤ 140737488355328) (N : Nat) (hN : N ≤ w.heap.size) (ho : w.ownsRow N e size (.slice (some ⟨ad, 0, none⟩) 0 0) 0 []) :
    Oper.stirAt P o a w Newer (fun w' v => ShapeOf m v ∧ w'.ownsRow N e size v m L ∧ (0 < m → w'.ownsRow w.heap.size e size v m L)) := by
  obtain ⟨i0, hi, iz0, iz1, iz2⟩ := info_parts hinfo
  have hbytes : (0 + m) * bytes ≤ 140737488355328 := by rw [Nat.zero_add]; exact hby
  rcases Nat.eq_zero_or_pos m with h0 | h0
  · subst h0
    obtain rfl : L = [] := List.eq_nil_of_length_eq_zero (by simpa using hl)
    have hrun : (Builtin.append_ #[t, t] o.type #[.slice (some ⟨ad, 0, none⟩) 0 0, .slice A 0 c]).run P w = .ok (.slice (some ⟨ad, 0, none⟩) 0 0) w := by
      cases A with
      | none => simp [Builtin.append_, run_underlying ht, sizeOf, typeInfo, hi, Builtin.lenOf, Builtin.firstCells, storeCells]
      | some a =>
        have hfc := run_firstCells_some (P := P) w i0.size 0 a 0 c [] (by simp) (fun j u h => by simp at h)
        simp [Builtin.append_, run_underlying ht, sizeOf, typeInfo, hi, Builtin.lenOf, hfc, storeCells]
    unfold Oper.stirAt
    simp only [execOp, hop, resolve, invoke, builtin, List.map_toArray, List.map_cons, List.map_nil, hs, hx, hrun, Result.andThen, Sem.run_bind, Sem.run_pure, Oper.stirUpon]
    exact ⟨Below.refl _ _, ⟨_, _, rfl⟩, ho, fun h => absurd h (Nat.lt_irrefl 0)⟩
  · rcases hr with hr | ⟨b, o', rfl, hlt, hc⟩
    · rw [hr] at hl
      have := Nat.mul_pos h0 hsz
      simp only [List.length_nil] at hl
      omega
    · obtain ⟨v', w', hrun, hown, hg⟩ := run_append_arg_grows (P := P) w t o.type e i0 z size bytes ht hi iz0 iz1 iz2 hzs hsz ⟨ad, 0, none⟩ 0 0 [] (by simp) (fun j u h => by simp at h) ⟨b, o', none⟩ m c L hl (fun j u h => by
        rw [show (⟨b, o', none⟩ : Addr).add j = ⟨b, o' + j, none⟩ from by unfold Addr.add; split <;> simp_all]; exact hc j u h) (by omega) (by omega) hbytes
      simp only [List.nil_append, Nat.zero_add] at hown
      obtain ⟨g, cap, rfl⟩ := owns_form hown h0
      unfold Oper.stirAt
      simp only [execOp, hop, resolve, invoke, builtin, List.map_toArray, List.map_cons, List.map_nil, hs, hx, hrun, Result.andThen, Sem.run_bind, Sem.run_pure, Oper.stirUpon]
      exact ⟨below_grown hg, ⟨_, _, rfl⟩, owns_lower hown hN, fun _ => hown⟩
/-- all blocks but that of the old wells, if there are any -/
def stP (t : Pt) (go : Nat) : Nat → Prop := fun b => 0 < t.no → b ≠ go
theorem stP_not {t : Pt} {go : Nat} (h : 0 < t.no) : ¬ stP t go go := fun k => k h rfl
structure I9 (W3 : World) (N : Nat) (t : Pt) (ρ : Nat → Option Value) (w : World) : Prop where
  b : Below W3.heap.size W3 w
  q : ∀ A A' c c', ρ 2 = some (qcV t.q A A' c c') → CopyAt w N (.slice A t.q.nw c) (.slice A' t.q.nf c') t.q
  o : ∀ go c, ρ 6 = some (.slice (some ⟨go, 0, none⟩) t.no c) → go < w.heap.size ∧ (∀ A A' c1 c2, ρ 2 = some (qcV t.q A A' c1 c2) → Clo (stP t go) [3, 34, 101, 27] (fun z => CopyAt z N (.slice A t.q.nw c1) (.slice A' t.q.nf c2) t.q) w) ∧ (∀ gp c', ρ 10 = some (.slice (some ⟨gp, 0, none⟩) t.np c') → Clo (stP t go) [3] (fun z => RowK z (some ⟨gp, 0, none⟩) 3 (intL t.pence t.np)) w)
theorem I9.later {W3 : World} {N : Nat} {t : Pt} {ρ : Nat → Option Value} {w w' : World} (h : I9 W3 N t ρ w) (hb : Below w.heap.size w w') : I9 W3 N t ρ w' :=
  ⟨bTrans h.b hb, fun A A' c c' e => (h.q A A' c c' e).mono hb, fun go c e => ⟨Nat.lt_of_lt_of_le (h.o go c e).1 hb.size, fun A A' c1 c2 e2 => ((h.o go c e).2.1 A A' c1 c2 e2).mono hb, fun gp c' e2 => ((h.o go c e).2.2 gp c' e2).mono hb⟩⟩
theorem I9.congr {W3 : World} {N : Nat} {t : Pt} {ρ ρ' : Nat → Option Value} {w : World} (h : I9 W3 N t ρ w) (h2 : ρ' 2 = ρ 2) (h6 : ρ' 6 = ρ 6) (h10 : ρ' 10 = ρ 10) : I9 W3 N t ρ' w :=
  ⟨h.b, fun A A' c c' e => h.q A A' c c' (h2 ▸ e), fun go c e => ⟨(h.o go c (h6 ▸ e)).1, fun A A' c1 c2 e2 => (h.o go c (h6 ▸ e)).2.1 A A' c1 c2 (h2 ▸ e2), fun gp c' e2 => (h.o go c (h6 ▸ e)).2.2 gp c' (h10 ▸ e2)⟩⟩
theorem upd_other {ρ : Nat → Option Value} {k j : Nat} (h : j ≠ k) (v : Value) : upd ρ k v j = ρ j := if_neg h
theorem upd_same {ρ : Nat → Option Value} {k : Nat} (v : Value) : upd ρ k v k = some v := if_pos rfl
theorem I9.deaf {W3 : World} {N : Nat} {t : Pt} {k : Nat} (h2 : 2 ≠ k) (h6 : 6 ≠ k) (h10 : 10 ≠ k) : deaf (I9 W3 N t) k := fun _ _ _ v h hb => (h.later hb).congr (upd_other h2 v) (upd_other h6 v) (upd_other h10 v)
theorem I9.put2 {W3 : World} {N : Nat} {t : Pt} {ρ : Nat → Option Value} {w w' : World} (h : I9 W3 N t ρ w) (hb : Below w.heap.size w w') (h6 : ρ 6 = none) {v : Value} (hq : qcR N t.q w' v) : I9 W3 N t (upd ρ 2 v) w' :=
  ⟨bTrans h.b hb, fun A A' c c' e => hq A A' c c' (Option.some.inj ((upd_same v).symm.trans e)), fun go c e => by
    rw [upd_other (by decide), h6] at e
    cases e⟩
theorem I9.put6 {W3 : World} {N : Nat} {t : Pt} {ρ : Nat → Option Value} {w w' : World} (h : I9 W3 N t ρ w) (hb : Below w.heap.size w w') (h10 : ρ 10 = none) {v : Value} (hv : ∀ go c, v = .slice (some ⟨go, 0, none⟩) t.no c → go < w'.heap.size ∧ (0 < t.no → w.heap.size ≤ go)) : I9 W3 N t (upd ρ 6 v) w' :=
  ⟨bTrans h.b hb, fun A A' c c' e => (h.q A A' c c' ((upd_other (by decide) v).symm.trans e)).mono hb, fun go c e => by
    obtain ⟨g1, g2⟩ := hv go c (Option.some.inj ((upd_same v).symm.trans e))
    refine ⟨g1, fun A A' c1 c2 e2 => ?_, fun gp c' e2 => ?_⟩
    · exact Clo.fresh (fun _ _ hk hx => hx.kept hk (by simp) (by simp) (by simp) (by simp)) (h.q A A' c1 c2 ((upd_other (by decide) v).symm.trans e2)) (fun b hb9 hn => by have := g2 hn; omega) hb
    · rw [upd_other (by decide), h10] at e2
      cases e2⟩
theorem I9.put10 {W3 : World} {N : Nat} {t : Pt} {ρ : Nat → Option Value} {w w' : World} (h : I9 W3 N t ρ w) (hb : Below w.heap.size w w') {v : Value} (hv : 0 < t.np → w'.ownsRow w.heap.size 3 1 v t.np (intL t.pence t.np)) : I9 W3 N t (upd ρ 10 v) w' :=
  ⟨bTrans h.b hb, fun A A' c c' e => (h.q A A' c c' ((upd_other (by decide) v).symm.trans e)).mono hb, fun go c e => by
    obtain ⟨g1, g2, _⟩ := h.o go c ((upd_other (by decide) v).symm.trans e)
    refine ⟨Nat.lt_of_lt_of_le g1 hb.size, fun A A' c1 c2 e2 => (g2 A A' c1 c2 ((upd_other (by decide) v).symm.trans e2)).mono hb, fun gp c' e2 => ?_⟩
    obtain rfl : v = _ := Option.some.inj ((upd_same v).symm.trans e2)
    rcases Nat.eq_zero_or_pos t.np with h0 | h0
    · exact Clo.const fun z => by rw [h0]; exact .inl rfl
    · refine ((owns_clo (hv h0) (Nat.le_refl _)).imp fun z hz => ?_).weak (fun b hb9 _ => by have : w.heap.size ≤ b := hb9; omega) (fun _ h => h)
      obtain ⟨A, c2, e3, h3⟩ := RowK.own hz
      injection e3 with e3 _ e4
      subst e3 e4
      exact h3⟩
theorem crossInv_no {md : Region.Mode} {ops : Array Oper} {G : World → Prop} {hs : List Stir} (h : ∀ x, x ∈ hs → ∀ s r K, x ≠ Stir.stir s r K) : crossInv md ops G hs := fun i s r K hi => absurd rfl (h _ (List.mem_of_getElem? hi) s r K)
theorem SpotOwnU.clo {w : World} {base : Nat} {y : Spot} {e : Ending} (h : SpotOwnU w base y e) : ∃ cs, e = .returned (.agg (List.toArray cs)) ∧ Clo (base ≤ ·) [3, 34, 190] (fun z => SpK z cs y) w := by
  obtain ⟨gr, gf, cr, cf, V, vs, rfl, h1, h2, h3, h4⟩ := h
  have h3' := h3
  obtain ⟨A, c, rfl, _⟩ := RowK.own h3'
  have k1 := (owns_clo h1 (Nat.le_refl _)).weak (l' := [3, 34, 190]) (fun _ h => h) (by simp)
  have k2 := (owns_clo h2 (Nat.le_refl _)).weak (l' := [3, 34, 190]) (fun _ h => h) (by simp)
  have k3 := (owns_clo h3 (Nat.le_refl _)).weak (l' := [3, 34, 190]) (fun _ h => h) (by simp)
  have k4 := Clo.weak (l' := [3, 34, 190]) h4 (fun _ h => h) (by simp)
  refine ⟨_, rfl, fun z hz => ?_⟩
  obtain ⟨Ar, cr', e1, hr⟩ := RowK.own (k1 z hz)
  obtain ⟨Af, cf', e2, hf⟩ := RowK.own (k2 z hz)
  obtain ⟨A', c', e3, hk⟩ := RowK.own (k3 z hz)
  injection e1 with e1 _ e4
  injection e2 with e2 _ e5
  injection e3 with e3 _ e6
  subst e1 e2 e3 e4 e5 e6
  exact ⟨_, _, _, _, _, rfl, hr, hf, A, c, vs, rfl, hk, k4 z hz⟩
/-- a copied spot, as a value -/
def cp9RC (p : Nat → Prop) (y : Spot) (w : World) (v : Value) : Prop := ∀ cs, v = .agg (List.toArray cs) → Clo p [3, 34, 190] (fun z => SpK z cs y) w
theorem cp9GC {p : Nat → Prop} {y : Spot} : (Stir.held (cp9S y) (cp9RC p y)).good := ⟨⟨_, none, none, none, 0, 0, 0, rfl⟩, fun _ _ _ hb h a e => (h a e).mono hb⟩
def spInC (p : Nat → Prop) (y : Spot) (w : World) (v : Value) : Prop := ∀ b, v = .slice (some ⟨b, 0, none⟩) 1 1 → ∃ cs, (∀ j u, cs[j]? = some u → w.cell? ⟨b, j, none⟩ = some u) ∧ Clo p [3, 34, 190] (fun z => SpK z cs y) w
theorem spInGC {p : Nat → Prop} {y : Spot} : (Stir.held one1 (spInC p y)).good := ⟨⟨_, 0, rfl⟩, fun _ _ _ hb h b e => by
  obtain ⟨cs, h1, h2⟩ := h b e
  exact ⟨cs, fun j u hj => (hb.cell (World.block_lt_of_cell? _ _ (h1 j u hj))).trans (h1 j u hj), h2.mono hb⟩⟩
def CopyOutS (w : World) (base : Nat) (t : Pt) (e : Ending) : Prop := ∃ A1 c1 A2 c2 go c3 gp c4 A6 c6 us, e = .returned (.agg #[.int .i64 t.q.wells, .slice A1 t.q.nw c1, .slice A2 t.q.nf c2, .slice (some ⟨go, 0, none⟩) t.no c3, .slice (some ⟨gp, 0, none⟩) t.np c4, .slice A6 t.ns c6, .int .i64 t.far, .int .i64 t.harm, .int .i64 t.many]) ∧ w.ownsRow base 3 1 (.slice (some ⟨go, 0, none⟩) t.no c3) t.no (intL t.old t.no) ∧ w.ownsRow base 71 7 (.slice A6 t.ns c6) t.ns us ∧ Clo (stP t go) [3, 34, 101, 27] (fun z => CopyAt z base (.slice A1 t.q.nw c1) (.slice A2 t.q.nf c2) t.q) w ∧ Clo (stP t go) [3] (fun z => RowK z (some ⟨gp, 0, none⟩) 3 (intL t.pence t.np)) w ∧ Clo (stP t go) [3, 34, 190] (fun z => SpRows z t.spot t.ns us) w
set_option maxHeartbeats 8000000 in
set_option maxRecDepth 100000 in
theorem copy9s_any (Aw Af Ao Ap As : Option Addr) (cw cf co cp cs : Nat) (t : Pt) (w : World) (hf : t.Fits) (hT : PAt w Aw Af Ao Ap As t) :
    Calls Tryz.prog 25 #[.agg #[.int .i64 t.q.wells, .slice Aw t.q.nw cw, .slice Af t.q.nf cf, .slice Ao t.no co, .slice Ap t.np cp, .slice As t.ns cs, .int .i64 t.far, .int .i64 t.harm, .int .i64 t.many]] w fun e w' => CopyOutS w' w.heap.size t e ∧ Below w.heap.size w w' := by
  have hb2 := bAlloc (bAlloc (Below.refl w.heap.size w) (.cells #[.int .i64 t.q.wells, .slice Aw t.q.nw cw, .slice Af t.q.nf cf, .slice Ao t.no co, .slice Ap t.np cp, .slice As t.ns cs, .int .i64 t.far, .int .i64 t.harm, .int .i64 t.many] 62)) (.cells #[.int .i64 0, .slice none 0 0, .slice none 0 0, .slice none 0 0, .slice none 0 0, .slice none 0 0, .int .i64 0, .int .i64 0, .int .i64 0] 62)
  have hb3 := bAlloc hb2 (.cells #[.int .i64 t.q.wells, .slice Aw t.q.nw cw, .slice Af t.q.nf cf, .slice Ao t.no co, .slice Ap t.np cp, .slice As t.ns cs, .int .i64 t.far, .int .i64 t.harm, .int .i64 t.many] 62)
  have HT := Lib.hid (hT.mono hb3)
  have HB := Lib.hid hb2
  have HF := Lib.hid hf
  have hn63 : t.ns ≤ 9223372036854775807 := by have := hf.ns; omega
  have HTR := Lib.hid (TBox.new (w.alloc (.cells #[.int .i64 t.q.wells, .slice Aw t.q.nw cw, .slice Af t.q.nf cf, .slice Ao t.no co, .slice Ap t.np cp, .slice As t.ns cs, .int .i64 t.far, .int .i64 t.harm, .int .i64 t.many] 62)) #[.int .i64 0, .slice none 0 0, .slice none 0 0, .slice none 0 0, .slice none 0 0, .slice none 0 0, .int .i64 0, .int .i64 0, .int .i64 0] 62)
  have HTA := Lib.hid (TBox.new ((w.alloc (.cells #[.int .i64 t.q.wells, .slice Aw t.q.nw cw, .slice Af t.q.nf cf, .slice Ao t.no co, .slice Ap t.np cp, .slice As t.ns cs, .int .i64 t.far, .int .i64 t.harm, .int .i64 t.many] 62)).alloc (.cells #[.int .i64 0, .slice none 0 0, .slice none 0 0, .slice none 0 0, .slice none 0 0, .slice none 0 0, .int .i64 0, .int .i64 0, .int .i64 0] 62)) #[.int .i64 t.q.wells, .slice Aw t.q.nw cw, .slice Af t.q.nf cf, .slice Ao t.no co, .slice Ap t.np cp, .slice As t.ns cs, .int .i64 t.far, .int .i64 t.harm, .int .i64 t.many] 62)
  have hSpots := Lib.hid (hT.spots.mono hb2)
  have HBA := Lib.hid (bAlloc (Below.refl ((w.alloc (.cells #[.int .i64 t.q.wells, .slice Aw t.q.nw cw, .slice Af t.q.nf cf, .slice Ao t.no co, .slice Ap t.np cp, .slice As t.ns cs, .int .i64 t.far, .int .i64 t.harm, .int .i64 t.many] 62)).alloc (.cells #[.int .i64 0, .slice none 0 0, .slice none 0 0, .slice none 0 0, .slice none 0 0, .slice none 0 0, .int .i64 0, .int .i64 0, .int .i64 0] 62)).heap.size ((w.alloc (.cells #[.int .i64 t.q.wells, .slice Aw t.q.nw cw, .slice Af t.q.nf cf, .slice Ao t.no co, .slice Ap t.np cp, .slice As t.ns cs, .int .i64 t.far, .int .i64 t.harm, .int .i64 t.many] 62)).alloc (.cells #[.int .i64 0, .slice none 0 0, .slice none 0 0, .slice none 0 0, .slice none 0 0, .slice none 0 0, .int .i64 0, .int .i64 0, .int .i64 0] 62))) (.cells #[.int .i64 t.q.wells, .slice Aw t.q.nw cw, .slice Af t.q.nf cf, .slice Ao t.no co, .slice Ap t.np cp, .slice As t.ns cs, .int .i64 t.far, .int .i64 t.harm, .int .i64 t.many] 62))
  clear hT hb2 hb3 hf
  go_enter Tryz.func25, Tryz.ntmps25
  go_wp2_with fail
  have HZ := Lib.hid (fun w' (hb : Below ((((w.alloc (.cells #[.int .i64 t.q.wells, .slice Aw t.q.nw cw, .slice Af t.q.nf cf, .slice Ao t.no co, .slice Ap t.np cp, .slice As t.ns cs, .int .i64 t.far, .int .i64 t.harm, .int .i64 t.many] 62)).alloc (.cells #[.int .i64 0, .slice none 0 0, .slice none 0 0, .slice none 0 0, .slice none 0 0, .slice none 0 0, .int .i64 0, .int .i64 0, .int .i64 0] 62))).alloc (.cells #[.int .i64 t.q.wells, .slice Aw t.q.nw cw, .slice Af t.q.nf cf, .slice Ao t.no co, .slice Ap t.np cp, .slice As t.ns cs, .int .i64 t.far, .int .i64 t.harm, .int .i64 t.many] 62)).heap.size ((((w.alloc (.cells #[.int .i64 t.q.wells, .slice Aw t.q.nw cw, .slice Af t.q.nf cf, .slice Ao t.no co, .slice Ap t.np cp, .slice As t.ns cs, .int .i64 t.far, .int .i64 t.harm, .int .i64 t.many] 62)).alloc (.cells #[.int .i64 0, .slice none 0 0, .slice none 0 0, .slice none 0 0, .slice none 0 0, .slice none 0 0, .int .i64 0, .int .i64 0, .int .i64 0] 62))).alloc (.cells #[.int .i64 t.q.wells, .slice Aw t.q.nw cw, .slice Af t.q.nf cf, .slice Ao t.no co, .slice Ap t.np cp, .slice As t.ns cs, .int .i64 t.far, .int .i64 t.harm, .int .i64 t.many] 62)) w') => (show w.heap.size + 3 ≤ w'.heap.size from by have := hb.size; simpa using this))
  have HTX := Lib.hid (show TBox ((((w.alloc (.cells #[.int .i64 t.q.wells, .slice Aw t.q.nw cw, .slice Af t.q.nf cf, .slice Ao t.no co, .slice Ap t.np cp, .slice As t.ns cs, .int .i64 t.far, .int .i64 t.harm, .int .i64 t.many] 62)).alloc (.cells #[.int .i64 0, .slice none 0 0, .slice none 0 0, .slice none 0 0, .slice none 0 0, .slice none 0 0, .int .i64 0, .int .i64 0, .int .i64 0] 62))).alloc (.cells #[.int .i64 t.q.wells, .slice Aw t.q.nw cw, .slice Af t.q.nf cf, .slice Ao t.no co, .slice Ap t.np cp, .slice As t.ns cs, .int .i64 t.far, .int .i64 t.harm, .int .i64 t.many] 62)) w.heap.size 62 #[.int .i64 t.q.wells, .slice Aw t.q.nw cw, .slice Af t.q.nf cf, .slice Ao t.no co, .slice Ap t.np cp, .slice As t.ns cs, .int .i64 t.far, .int .i64 t.harm, .int .i64 t.many] from (TBox.new w #[.int .i64 t.q.wells, .slice Aw t.q.nw cw, .slice Af t.q.nf cf, .slice Ao t.no co, .slice Ap t.np cp, .slice As t.ns cs, .int .i64 t.far, .int .i64 t.harm, .int .i64 t.many] 62).mono (bAlloc (bAlloc (Below.refl _ _) (.cells #[.int .i64 0, .slice none 0 0, .slice none 0 0, .slice none 0 0, .slice none 0 0, .slice none 0 0, .int .i64 0, .int .i64 0, .int .i64 0] 62)) (.cells #[.int .i64 t.q.wells, .slice Aw t.q.nw cw, .slice Af t.q.nf cf, .slice Ao t.no co, .slice Ap t.np cp, .slice As t.ns cs, .int .i64 t.far, .int .i64 t.harm, .int .i64 t.many] 62)))
  refine wp_region_ord (I9 ((((w.alloc (.cells #[.int .i64 t.q.wells, .slice Aw t.q.nw cw, .slice Af t.q.nf cf, .slice Ao t.no co, .slice Ap t.np cp, .slice As t.ns cs, .int .i64 t.far, .int .i64 t.harm, .int .i64 t.many] 62)).alloc (.cells #[.int .i64 0, .slice none 0 0, .slice none 0 0, .slice none 0 0, .slice none 0 0, .slice none 0 0, .int .i64 0, .int .i64 0, .int .i64 0] 62))).alloc (.cells #[.int .i64 t.q.wells, .slice Aw t.q.nw cw, .slice Af t.q.nf cf, .slice Ao t.no co, .slice Ap t.np cp, .slice As t.ns cs, .int .i64 t.far, .int .i64 t.harm, .int .i64 t.many] 62)) (w.heap.size + 3) t) (fun _ => True) (fun _ _ _ => trivial) 7 12 [.const (.pointer (some ⟨w.heap.size, 0, none⟩)), .const (.agg #[.int .i64 t.q.wells, .slice Aw t.q.nw cw, .slice Af t.q.nf cf]), .held (qcS t.q) (qcR (w.heap.size + 3) t.q),
    .held emptyV (ownsV (w.heap.size + 3) 3 1 0 []), .const (.pointer (some ⟨w.heap.size, 3, none⟩)), .const (.slice Ao t.no co), .held (ShapeOf t.no) (ownsV (w.heap.size + 3) 3 1 t.no (intL t.old t.no)),
    .held emptyV (ownsV (w.heap.size + 3) 3 1 0 []), .const (.pointer (some ⟨w.heap.size, 4, none⟩)), .const (.slice Ap t.np cp), .held (ShapeOf t.np) (ownsV (w.heap.size + 3) 3 1 t.np (intL t.pence t.np)), .const (.pointer (some ⟨w.heap.size + 2, 0, none⟩))]
    (by kernel_rfl) (by kernel_rfl) rfl ⟨trivial, trivial, qcG, ⟨⟨_, 0, rfl⟩, fun _ _ _ hb h => owns_below h hb⟩, trivial, trivial, ownsG, ⟨⟨_, 0, rfl⟩, fun _ _ _ hb h => owns_below h hb⟩, trivial, trivial, ownsG, trivial, trivial⟩ (crossInv_no (by simp)) (fun w' hb => ⟨hb, fun _ _ _ _ e => (by cases e), fun _ _ e => (by cases e)⟩) ?_
  iterate 2
    refine wpOrd_const ?_ (by rfl) (fun ρ w' hI hd => ?_) ?_
    · exact I9.deaf (by decide) (by decide) (by decide)
    · clear hd
      obtain ⟨X_0, X_1, X_2, X_3, X_4, X_5, X_6, X_7, X_8, X_l⟩ := TBox.c9 (TBox.mono HTX.out hI.b)
      clear hI
      refine StirH.mk ?_
      go_simp
  simp only [Act.put, List.setIfInBounds_toArray, List.set_cons_succ, List.set_cons_zero]
  refine wpOrd_heldI (by rfl) (fun ρ w' hI hn ho hd => ?_) (fun v hv => ?_)
  · clear hd
    have hz := HZ.out _ hI.b
    have h6 := ho 6 (by kernel_rfl)
    have HI9 := Lib.hid hI
    have hc := Lib.hid (copy5_any Aw Af cw cf t.q w' HF.out.q (HT.out.q.mono hI.b))
    clear hI ho hn
    refine StirH.mk ?_
    go_simp
    refine hc.out.mono ?_
    rintro e w'' ⟨⟨vW, vF, rfl, h1⟩, hb'⟩
    obtain ⟨A1, c1, A2, c2, rfl, rfl, _⟩ := h1.qat
    have hq : qcR (w.heap.size + 3) t.q w'' (qcV t.q A1 A2 c1 c2) := fun a b c d e => by
      obtain ⟨rfl, rfl, rfl, rfl⟩ := qcV_inj e
      exact h1.lower hz
    exact ⟨_, rfl, hb', ⟨⟨A1, A2, c1, c2, rfl⟩, hq⟩, HI9.out.put2 hb' h6 hq⟩
  obtain ⟨A1, A2, c1, c2, rfl⟩ := hv
  refine wpOrd_held ?_ (by rfl) (fun ρ w' hI hd => ?_) (fun v hv => ?_)
  · exact I9.deaf (by decide) (by decide) (by decide)
  · clear hd
    have hl := World.ownsRow_lit (base := w.heap.size + 3) (e := 3) (size := 1) w' #[] 0 (HZ.out _ hI.b) (by decide) rfl
    clear hI
    refine StirH.mk ?_
    go_simp
    exact ⟨bAlloc (Below.refl _ _) _, ⟨_, rfl⟩, hl⟩
  obtain ⟨be1, rfl⟩ := hv
  iterate 2
    refine wpOrd_const ?_ (by rfl) (fun ρ w' hI hd => ?_) ?_
    · exact I9.deaf (by decide) (by decide) (by decide)
    · clear hd
      obtain ⟨X_0, X_1, X_2, X_3, X_4, X_5, X_6, X_7, X_8, X_l⟩ := TBox.c9 (TBox.mono HTX.out hI.b)
      clear hI
      refine StirH.mk ?_
      go_simp
  simp only [Act.put, List.setIfInBounds_toArray, List.set_cons_succ, List.set_cons_zero]
  refine wpOrd_heldI (by rfl) (fun ρ w' hI hn ho hd => ?_) (fun v hv => ?_)
  · have h1 : ownsV (w.heap.size + 3) 3 1 0 [] w' (.slice (some ⟨be1, 0, none⟩) 0 0) := hd.1 (by kernel_rfl)
    clear hd
    refine StirH.mk (stirAt_more (stir_copy4 w' _ _ 34 rfl 3 _ 1 8 infoInt Tryz.underlying34 rfl (by decide) be1 Ao t.no co (intL t.old t.no) rfl rfl (by rw [intL_len, Nat.mul_one]) ((intsAt_row.1 HT.out.old).mono hI.b) (by unfold maxLen; have := HF.out.no; omega) (by have := HF.out.no; omega) _ (HZ.out _ hI.b) h1) (fun w'' v hb hv => ?_))
    obtain ⟨hs, ho2, hnew⟩ := hv
    exact ⟨⟨hs, ho2⟩, hI.put6 hb (ho 10 (by kernel_rfl)) (fun go c e => by subst e; exact ⟨(ho2.lt go rfl).2, fun h => ((hnew h).lt go rfl).1⟩)⟩
  obtain ⟨go, c3, rfl⟩ := hv
  refine wpOrd_held ?_ (by rfl) (fun ρ w' hI hd => ?_) (fun v hv => ?_)
  · exact I9.deaf (by decide) (by decide) (by decide)
  · clear hd
    have hl := World.ownsRow_lit (base := w.heap.size + 3) (e := 3) (size := 1) w' #[] 0 (HZ.out _ hI.b) (by decide) rfl
    clear hI
    refine StirH.mk ?_
    go_simp
    exact ⟨bAlloc (Below.refl _ _) _, ⟨_, rfl⟩, hl⟩
  obtain ⟨be2, rfl⟩ := hv
  iterate 2
    refine wpOrd_const ?_ (by rfl) (fun ρ w' hI hd => ?_) ?_
    · exact I9.deaf (by decide) (by decide) (by decide)
    · clear hd
      obtain ⟨X_0, X_1, X_2, X_3, X_4, X_5, X_6, X_7, X_8, X_l⟩ := TBox.c9 (TBox.mono HTX.out hI.b)
      clear hI
      refine StirH.mk ?_
      go_simp
  simp only [Act.put, List.setIfInBounds_toArray, List.set_cons_succ, List.set_cons_zero]
  refine wpOrd_heldI (by rfl) (fun ρ w' hI hn ho hd => ?_) (fun v hv => ?_)
  · have h1 : ownsV (w.heap.size + 3) 3 1 0 [] w' (.slice (some ⟨be2, 0, none⟩) 0 0) := hd.1 (by kernel_rfl)
    clear hd
    refine StirH.mk (stirAt_more (stir_copy4 w' _ _ 34 rfl 3 _ 1 8 infoInt Tryz.underlying34 rfl (by decide) be2 Ap t.np cp (intL t.pence t.np) rfl rfl (by rw [intL_len, Nat.mul_one]) ((intsAt_row.1 HT.out.pence).mono hI.b) (by unfold maxLen; have := HF.out.np; omega) (by have := HF.out.np; omega) _ (HZ.out _ hI.b) h1) (fun w'' v hb hv => ?_))
    obtain ⟨hs, ho2, hnew⟩ := hv
    exact ⟨⟨hs, ho2⟩, hI.put10 hb hnew⟩
  obtain ⟨gp, c4, rfl⟩ := hv
  iterate 1
    refine wpOrd_const ?_ (by rfl) (fun ρ w' hI hd => ?_) ?_
    · exact I9.deaf (by decide) (by decide) (by decide)
    · clear hd
      obtain ⟨X_0, X_1, X_2, X_3, X_4, X_5, X_6, X_7, X_8, X_l⟩ := TBox.c9 (TBox.mono HTX.out hI.b)
      clear hI
      refine StirH.mk ?_
      go_simp
  simp only [Act.put, List.setIfInBounds_toArray, List.set_cons_succ, List.set_cons_zero]
  refine wpOrd_end (fun ρ w5 hρ hI hd => ?_)
  have hb5 := hI.b
  have r2 : ρ 2 = some (qcV t.q A1 A2 c1 c2) := (hρ 2 (by decide)).trans (by rfl)
  have r6 : ρ 6 = some (.slice (some ⟨go, 0, none⟩) t.no c3) := (hρ 6 (by decide)).trans (by rfl)
  have r10 : ρ 10 = some (.slice (some ⟨gp, 0, none⟩) t.np c4) := (hρ 10 (by decide)).trans (by rfl)
  have ho5 : ownsV (w.heap.size + 3) 3 1 t.no (intL t.old t.no) w5 (.slice (some ⟨go, 0, none⟩) t.no c3) := hd.2.2.1
  have hq5 := (hI.o _ _ r6).2.1 _ _ _ _ r2
  have hp5 := (hI.o _ _ r6).2.2 _ _ r10
  clear hd hI hρ r2 r6 r10
  have HP5 := Lib.hid hp5
  have HO5 := Lib.hid ho5
  have HQ5 := Lib.hid hq5
  have HB5 := Lib.hid (bTrans HBA.out hb5)
  have HTB := Lib.hid (show TBox w5 (w.heap.size + 2) 62 #[.int .i64 t.q.wells, .slice Aw t.q.nw cw, .slice Af t.q.nf cf, .slice Ao t.no co, .slice Ap t.np cp, .slice As t.ns cs, .int .i64 t.far, .int .i64 t.harm, .int .i64 t.many] by have := HTA.out.mono hb5; simpa using this)
  have hlt7 := HTB.out.lt
  obtain ⟨bc, bf⟩ := bcell hb5
  have hz5 := HZ.out _ hb5
  clear hp5 ho5 hq5
  simp only [List.drop_succ_cons, List.drop_zero]
  unfold qcV
  go_wp2_with fail
  have ty5 : ∃ cs, TBox w5 (w.heap.size + 2) 62 cs := ⟨_, HTB.out⟩
  have HT6 := Lib.hid (((((((HTB.out.set 0 (.int .i64 t.q.wells)).set 1 (.slice A1 t.q.nw c1)).set 2 (.slice A2 t.q.nf c2)).set 3 (.slice (some ⟨go, 0, none⟩) t.no c3)).set 4 (.slice (some ⟨gp, 0, none⟩) t.np c4)).set 5 (.slice none 0 0)))
  have HQ6 := Lib.hid (show Clo (stP t go) [3, 34, 101, 27] (fun z => CopyAt z (w.heap.size + 3) (.slice A1 t.q.nw c1) (.slice A2 t.q.nf c2) t.q) (((((((w5.setCell ⟨w.heap.size + 2, 0, none⟩ (.int .i64 t.q.wells)).setCell ⟨w.heap.size + 2, 1, none⟩ (.slice A1 t.q.nw c1)).setCell ⟨w.heap.size + 2, 2, none⟩ (.slice A2 t.q.nf c2)).setCell ⟨w.heap.size + 2, 3, none⟩ (.slice (some ⟨go, 0, none⟩) t.no c3)).setCell ⟨w.heap.size + 2, 4, none⟩ (.slice (some ⟨gp, 0, none⟩) t.np c4)).setCell ⟨w.heap.size + 2, 5, none⟩ (.slice none 0 0))) from by
    have h := HQ5.out
    repeat with_reducible refine Clo.setTy (t := 62) ?_ ?_ (by decide) _ _
    with_reducible exact h
    all_goals repeat (first | with_reducible refine TyB.set ?_ _ _ _ | with_reducible exact ty5))
  have HO6 := Lib.hid (show (((((((w5.setCell ⟨w.heap.size + 2, 0, none⟩ (.int .i64 t.q.wells)).setCell ⟨w.heap.size + 2, 1, none⟩ (.slice A1 t.q.nw c1)).setCell ⟨w.heap.size + 2, 2, none⟩ (.slice A2 t.q.nf c2)).setCell ⟨w.heap.size + 2, 3, none⟩ (.slice (some ⟨go, 0, none⟩) t.no c3)).setCell ⟨w.heap.size + 2, 4, none⟩ (.slice (some ⟨gp, 0, none⟩) t.np c4)).setCell ⟨w.heap.size + 2, 5, none⟩ (.slice none 0 0))).ownsRow (w.heap.size + 3) 3 1 (.slice (some ⟨go, 0, none⟩) t.no c3) t.no (intL t.old t.no) from by
    have h := HO5.out
    unfold ownsV at h
    repeat with_reducible refine owns_setTy (t := 62) ?_ ?_ (by decide) _ _
    with_reducible exact h
    all_goals repeat (first | with_reducible refine TyB.set ?_ _ _ _ | with_reducible exact ty5))
  have HP6 := Lib.hid (show Clo (stP t go) [3] (fun z => RowK z (some ⟨gp, 0, none⟩) 3 (intL t.pence t.np)) (((((((w5.setCell ⟨w.heap.size + 2, 0, none⟩ (.int .i64 t.q.wells)).setCell ⟨w.heap.size + 2, 1, none⟩ (.slice A1 t.q.nw c1)).setCell ⟨w.heap.size + 2, 2, none⟩ (.slice A2 t.q.nf c2)).setCell ⟨w.heap.size + 2, 3, none⟩ (.slice (some ⟨go, 0, none⟩) t.no c3)).setCell ⟨w.heap.size + 2, 4, none⟩ (.slice (some ⟨gp, 0, none⟩) t.np c4)).setCell ⟨w.heap.size + 2, 5, none⟩ (.slice none 0 0))) from by
    have h := HP5.out
    repeat with_reducible refine Clo.setTy (t := 62) ?_ ?_ (by decide) _ _
    with_reducible exact h
    all_goals repeat (first | with_reducible refine TyB.set ?_ _ _ _ | with_reducible exact ty5))
  have HB6 := Lib.hid (show Below (w.heap.size + 2) ((w.alloc (.cells #[.int .i64 t.q.wells, .slice Aw t.q.nw cw, .slice Af t.q.nf cf, .slice Ao t.no co, .slice Ap t.np cp, .slice As t.ns cs, .int .i64 t.far, .int .i64 t.harm, .int .i64 t.many] 62)).alloc (.cells #[.int .i64 0, .slice none 0 0, .slice none 0 0, .slice none 0 0, .slice none 0 0, .slice none 0 0, .int .i64 0, .int .i64 0, .int .i64 0] 62)) _ from (Below.setCell (p := ⟨w.heap.size + 2, 5, none⟩) (Below.setCell (p := ⟨w.heap.size + 2, 4, none⟩) (Below.setCell (p := ⟨w.heap.size + 2, 3, none⟩) (Below.setCell (p := ⟨w.heap.size + 2, 2, none⟩) (Below.setCell (p := ⟨w.heap.size + 2, 1, none⟩) (Below.setCell (p := ⟨w.heap.size + 2, 0, none⟩) (by have := HB5.out; simpa using this) (Nat.le_refl _) (.int .i64 t.q.wells)) (Nat.le_refl _) (.slice A1 t.q.nw c1)) (Nat.le_refl _) (.slice A2 t.q.nf c2)) (Nat.le_refl _) (.slice (some ⟨go, 0, none⟩) t.no c3)) (Nat.le_refl _) (.slice (some ⟨gp, 0, none⟩) t.np c4)) (Nat.le_refl _) (.slice none 0 0)))
  have hlO : ∀ q, (Value.slice (some ⟨go, 0, none⟩) t.no c3).ownBlock = some q → q < w5.heap.size := fun q hq => ((show w5.ownsRow _ _ _ _ _ _ from HO5.out).lt q hq).2
  have HLO := Lib.hid hlO
  clear hlO ty5 bc bf
  go_loopw [4] (fun s wr => ∃ (k : Nat) (V : Value) (us : List Value), k ≤ t.ns ∧ s = .int .i64 k ∧ TBox wr (w.heap.size + 2) 62 #[.int .i64 t.q.wells, .slice A1 t.q.nw c1, .slice A2 t.q.nf c2, .slice (some ⟨go, 0, none⟩) t.no c3, .slice (some ⟨gp, 0, none⟩) t.np c4, V, .int .i64 t.far, .int .i64 t.harm, .int .i64 t.many] ∧ wr.ownsRow w5.heap.size 71 7 V k us ∧ Clo (stP t go) [3, 34, 190] (fun z => SpRows z t.spot k us) wr ∧ w5.heap.size ≤ wr.heap.size ∧ Clo (stP t go) [3, 34, 101, 27] (fun z => CopyAt z (w.heap.size + 3) (.slice A1 t.q.nw c1) (.slice A2 t.q.nf c2) t.q) wr ∧ wr.ownsRow (w.heap.size + 3) 3 1 (.slice (some ⟨go, 0, none⟩) t.no c3) t.no (intL t.old t.no) ∧ Clo (stP t go) [3] (fun z => RowK z (some ⟨gp, 0, none⟩) 3 (intL t.pence t.np)) wr ∧ Below (w.heap.size + 2) ((w.alloc (.cells #[.int .i64 t.q.wells, .slice Aw t.q.nw cw, .slice Af t.q.nf cf, .slice Ao t.no co, .slice Ap t.np cp, .slice As t.ns cs, .int .i64 t.far, .int .i64 t.harm, .int .i64 t.many] 62)).alloc (.cells #[.int .i64 0, .slice none 0 0, .slice none 0 0, .slice none 0 0, .slice none 0 0, .slice none 0 0, .int .i64 0, .int .i64 0, .int .i64 0] 62)) wr) (fun s _ => t.ns - (intOf s).toNat)
  case atStart => exact ⟨0, .slice none 0 0, [], Nat.zero_le _, rfl, HT6.out, World.ownsRow_nil _ _ _ _, Clo.const (fun _ => SpRows.nil), by simp, HQ6.out, HO6.out, HP6.out, HB6.out⟩
  case round =>
    obtain ⟨k, V, us, hk, rfl, hbx, hown, hrows, hsz5, hqq, hoo, hpp, hbel⟩ := hrel
    have HX := Lib.hid hbx
    have HV := Lib.hid hown
    have HR := Lib.hid hrows
    have HQ := Lib.hid hqq
    have HO := Lib.hid hoo
    have HP := Lib.hid hpp
    have HL := Lib.hid hbel
    have hbw : Below w.heap.size w wr := bTrans HB.out (by simpa using hbel)
    have HW := Lib.hid hbw
    have HXW := Lib.hid (hSpots.out.mono (show Below ((w.alloc (.cells #[.int .i64 t.q.wells, .slice Aw t.q.nw cw, .slice Af t.q.nf cf, .slice Ao t.no co, .slice Ap t.np cp, .slice As t.ns cs, .int .i64 t.far, .int .i64 t.harm, .int .i64 t.many] 62)).alloc (.cells #[.int .i64 0, .slice none 0 0, .slice none 0 0, .slice none 0 0, .slice none 0 0, .slice none 0 0, .int .i64 0, .int .i64 0, .int .i64 0] 62)).heap.size _ wr by simpa using hbel))
    have p0 := (hbel.cell (p := ⟨w.heap.size, 5, none⟩) (by show w.heap.size < w.heap.size + 2; omega)).trans (show _ = some (.slice As t.ns cs) by simp [go_sem])
    have q1 : wr.cell? ⟨w.heap.size + 2, 5, none⟩ = some V := hbx.cell 5
    have q2 := hbx.frozen 5
    have hz : w.heap.size + 2 < wr.heap.size := hbx.lt
    have hy : w.heap.size < wr.heap.size := by omega
    clear hbx hown hrows hqq hoo hpp hbel hbw
    by_cases hlt : k < t.ns
    · obtain ⟨b, o, Ar, Ar2, Ax, cr, cr2, cx, hA, hlb, hsh, hrw, _, i0, i1, i2, i3, i4, i5, i6⟩ := spots_at HXW.out hlt
      subst hA
      obtain ⟨y, hy'⟩ : ∃ y, t.spot k = y := ⟨_, rfl⟩
      rw [hy'] at hsh hrw i0 i1 i2 i3 i4 i5 i6
      have HYE := Lib.hid hy'
      have HYF := Lib.hid (show y.Fits by have := HF.out.spot k hlt; rw [hy'] at this; exact this)
      have HSH := Lib.hid hsh
      have HRW := Lib.hid hrw
      have k1 : (k : Int) < (t.ns : Int) := by omega
      have k0 : (0 : Int) ≤ (k : Int) := by omega
      have HN := Lib.hid (show (k + 1) * 104 ≤ 140737488351232 by have := HF.out.ns; omega)
      clear hsh hrw hy'
      go_wp2_with fail
      refine wp_region_pin 9 [.const (.pointer (some ⟨w.heap.size + 2, 5, none⟩)), .const V, .const (.pointer (some ⟨w.heap.size, 5, none⟩)), .const (.slice (some ⟨b, o, none⟩) t.ns cs), .const (.int .i64 k), .const (.pointer (some ⟨b, o + k * 7, none⟩)), .const (.agg #[.int .i64 y.at_, .slice Ar y.sh.nr cr, .slice Ar2 y.sh.nf cr2, .int .i64 y.sh.deep, .int .i64 y.sh.haul, .int .i64 y.sh.rest, .slice Ax y.fl.n cx]), .held (cp9S y) (cp9RC (stP t go) y), .held one1 (spInC (stP t go) y)]
        [.pointer (some ⟨w.heap.size + 2, 5, none⟩)] (by kernel_rfl) (by kernel_rfl) rfl ⟨trivial, trivial, trivial, trivial, trivial, trivial, trivial, cp9GC, spInGC, trivial⟩ (crossAll_no _ _ _ _ trivial) rfl rfl (fun j u hj => ?_) ?_
      · match j, hj with
        | 0, hj =>
          obtain rfl : Value.pointer (some ⟨w.heap.size + 2, 5, none⟩) = u := by simpa using hj
          exact ⟨_, rfl, rfl, fun w' => by go_simp⟩
      iterate 7 refine wpStir_const (by go_simp) ?_
      simp only [Act.put, List.setIfInBounds_toArray, List.set_cons_succ, List.set_cons_zero]
      refine wpStir_held rfl (fun w' hb hd => ?_) (fun v hv => ?_)
      · clear hd
        have hcw := Lib.hid (copySpotU_any Ar Ar2 Ax cr cr2 cx y w' HYF.out (HSH.out.mono hb) (HRW.out.mono hb))
        go_simp
        refine hcw.out.mono ?_
        rintro e w'' ⟨hso, hb'⟩
        obtain ⟨l, rfl, hlc⟩ := hso.clo
        have hl2 := hlc.out
        obtain ⟨_, _, _, _, u, rfl, _, _, hu⟩ := hl2
        obtain ⟨_, _, _, rfl, _⟩ := hu
        refine ⟨_, rfl, hb', ⟨_, _, _, _, _, _, rfl⟩, fun l' e => ?_⟩
        obtain rfl : _ = l' := by
          have := Value.agg.inj e
          exact congrArg Array.toList this
        exact hlc.weak (fun b hb9 _ => by have h3 := (HO.out.lt go rfl).2; have h4 := hb.size; have h5 : w'.heap.size ≤ b := hb9; omega) (fun _ h => h)
      obtain ⟨Br, Br2, Bx, dr, dr2, dx, rfl⟩ := hv
      refine wpStir_held rfl (fun w' hb hd => ?_) (fun v hv => ?_)
      · have h1 := (show cp9RC (stP t go) y w' _ from hd.1 (by kernel_rfl)) _ rfl
        clear hd
        go_simp
        refine ⟨bAlloc (Below.refl _ _) _, ⟨_, rfl⟩, fun b' hb' => ?_⟩
        obtain rfl : w'.heap.size = b' := by simpa using hb'
        have h2 := h1.mono (bAlloc (Below.refl _ _) (.cells #[.int .i64 y.at_, .slice Br y.sh.nr dr, .slice Br2 y.sh.nf dr2, .int .i64 y.sh.deep, .int .i64 y.sh.haul, .int .i64 y.sh.rest, .slice Bx y.fl.n dx] 71))
        refine ⟨_, ?_, h2⟩
        intro j u hj
        exact ((TBox.new w' #[.int .i64 y.at_, .slice Br y.sh.nr dr, .slice Br2 y.sh.nf dr2, .int .i64 y.sh.deep, .int .i64 y.sh.haul, .int .i64 y.sh.rest, .slice Bx y.fl.n dx] 71).cell j).trans (by simpa using hj)
      obtain ⟨b9, rfl⟩ := hv
      simp only [Act.put, List.setIfInBounds_toArray, List.set_cons_succ, List.set_cons_zero]
      refine wpStir_end (fun w9 hb9 hd => ?_)
      obtain ⟨l, h4, h5⟩ := hd.1 b9 rfl
      clear hd
      have HX9 := Lib.hid (HX.out.mono hb9)
      have HV9 := Lib.hid (owns_below HV.out hb9)
      have HR9 := Lib.hid (HR.out.mono hb9)
      have HQ9 := Lib.hid (HQ.out.mono hb9)
      have HO9 := Lib.hid (owns_below HO.out hb9)
      have HP9 := Lib.hid (HP.out.mono hb9)
      have HK9 := Lib.hid h5
      have HL9 := Lib.hid (HL.out.trans (hb9.mono (by have := HX.out.lt; omega)))
      refine stir_own (Operand.tmp 29) (Operand.tmp 36) 60 rfl w5.heap.size 71 (.agg #[.int .i64 0, .slice none 0 0, .slice none 0 0, .int .i64 0, .int .i64 0, .int .i64 0, .slice none 0 0]) 7 104 infoSpot Tryz.underlying60 rfl (by decide) V k us rfl HV9.out ⟨b9, 0, none⟩ 1 1 l rfl (by rw [h5.out.len]) (fun j u hj => by rw [add_none, Nat.zero_add]; exact h4 j u hj) h5.out.one (by unfold maxLen; have := HN.out; omega) (by have := HN.out; omega) (by have := hb9.size; omega) (fun v' w10 hown10 hg10 => ?_)
      obtain ⟨A6, c6, rfl, _⟩ := RowK.own hown10
      have hnb : some (w.heap.size + 2) ≠ V.ownBlock := fun e => by have := HV9.out.lt _ e.symm; omega
      have HX10 := Lib.hid (HX9.out.grown hg10 hnb)
      have hk10 : Kept [3, 34, 190] w9 w10 := Kept.of_own hg10 HV9.out (by decide)
      have HR10 := Lib.hid (HR9.out.kept hk10)
      have HK10 := Lib.hid (HK9.out.kept hk10)
      have HQ10 := Lib.hid (HQ9.out.kept (Kept.of_own hg10 HV9.out (by decide)))
      have HO10 := Lib.hid (keep_apart HO9.out HLO.out HV9.out hg10)
      have HP10 := Lib.hid (HP9.out.kept (Kept.of_own hg10 HV9.out (by decide)))
      have HL10 := Lib.hid (HL9.out.grown hg10 (by have := HX9.out.lt; omega) (fun q hq => by have := (HV9.out.lt q hq).1; omega))
      have HV10 := Lib.hid hown10
      have hz10 : w5.heap.size ≤ w10.heap.size := by have := hg10.size; have := hb9.size; omega
      have r1 : w10.cell? ⟨w.heap.size + 2, 5, none⟩ = some V := HX10.out.cell 5
      have r2 := HX10.out.frozen 5
      clear hown10 hg10 h4 h5 hb9 p0 q1 q2 i0 i1 i2 i3 i4 i5 i6 hnb hk10
      simp only [putF, Act.put, List.setIfInBounds_toArray, List.set_cons_succ, List.set_cons_zero, List.drop_succ_cons, List.drop_zero]
      go_wp2_with fail
      go_roundw
      case rel =>
        have hk11 : Kept [3, 34, 190] w10 (w10.setCell ⟨w.heap.size + 2, 5, none⟩ (.slice A6 (k + 1) c6)) := Kept.set HX10.out (by decide) 5 _
        have hs11 : Clo (stP t go) [3, 34, 190] (fun z => SpRows z t.spot (k + 1) (us ++ l)) (w10.setCell ⟨w.heap.size + 2, 5, none⟩ (.slice A6 (k + 1) c6)) := Clo.both (HR10.out.kept hk11) (HK10.out.kept hk11) (fun z a c => a.snoc (by rw [HYE.out]; exact c))
        refine ⟨k + 1, .slice A6 (k + 1) c6, _, by omega, ?_, HX10.out.set 5 (.slice A6 (k + 1) c6), owns_set HV10.out (by omega) 5 (.slice A6 (k + 1) c6), hs11, by simpa using hz10, HQ10.out.setTy ⟨_, HX10.out⟩ (by decide) 5 _, owns_setT HO10.out HX10.out (by decide) 5 _, HP10.out.setTy ⟨_, HX10.out⟩ (by decide) 5 _, HL10.out.setCell (p := ⟨w.heap.size + 2, 5, none⟩) (Nat.le_refl _) (.slice A6 (k + 1) c6)⟩
        go_num
      case measure => simp [intOf]; omega
    · obtain rfl : k = t.ns := by omega
      obtain ⟨A6, c6, rfl, _⟩ := RowK.own HV.out
      have q10 : wr.cell? ⟨w.heap.size + 2, 0, none⟩ = some (.int .i64 t.q.wells) := HX.out.cell 0
      have q11 : wr.cell? ⟨w.heap.size + 2, 1, none⟩ = some (.slice A1 t.q.nw c1) := HX.out.cell 1
      have q12 : wr.cell? ⟨w.heap.size + 2, 2, none⟩ = some (.slice A2 t.q.nf c2) := HX.out.cell 2
      have q13 : wr.cell? ⟨w.heap.size + 2, 3, none⟩ = some (.slice (some ⟨go, 0, none⟩) t.no c3) := HX.out.cell 3
      have q14 : wr.cell? ⟨w.heap.size + 2, 4, none⟩ = some (.slice (some ⟨gp, 0, none⟩) t.np c4) := HX.out.cell 4
      have q15 : wr.cell? ⟨w.heap.size + 2, 5, none⟩ = some (.slice A6 t.ns c6) := HX.out.cell 5
      have q16 : wr.cell? ⟨w.heap.size + 2, 6, none⟩ = some (.int .i64 t.far) := HX.out.cell 6
      have q17 : wr.cell? ⟨w.heap.size + 2, 7, none⟩ = some (.int .i64 t.harm) := HX.out.cell 7
      have q18 : wr.cell? ⟨w.heap.size + 2, 8, none⟩ = some (.int .i64 t.many) := HX.out.cell 8
      have hTR : TBox wr (w.heap.size + 1) 62 #[.int .i64 0, .slice none 0 0, .slice none 0 0, .slice none 0 0, .slice none 0 0, .slice none 0 0, .int .i64 0, .int .i64 0, .int .i64 0] := (HL.out.block (w.heap.size + 1) (by omega)).trans (by have := HTR.out; simpa [TBox] using this)
      have HTR9 := Lib.hid hTR
      have s0 : wr.cell? ⟨w.heap.size + 1, 0, none⟩ = some (.int .i64 0) := hTR.cell 0
      have f0 := hTR.frozen 0
      have s1 : wr.cell? ⟨w.heap.size + 1, 1, none⟩ = some (.slice none 0 0) := hTR.cell 1
      have f1 := hTR.frozen 1
      have s2 : wr.cell? ⟨w.heap.size + 1, 2, none⟩ = some (.slice none 0 0) := hTR.cell 2
      have f2 := hTR.frozen 2
      have s3 : wr.cell? ⟨w.heap.size + 1, 3, none⟩ = some (.slice none 0 0) := hTR.cell 3
      have f3 := hTR.frozen 3
      have s4 : wr.cell? ⟨w.heap.size + 1, 4, none⟩ = some (.slice none 0 0) := hTR.cell 4
      have f4 := hTR.frozen 4
      have s5 : wr.cell? ⟨w.heap.size + 1, 5, none⟩ = some (.slice none 0 0) := hTR.cell 5
      have f5 := hTR.frozen 5
      have s6 : wr.cell? ⟨w.heap.size + 1, 6, none⟩ = some (.int .i64 0) := hTR.cell 6
      have f6 := hTR.frozen 6
      have s7 : wr.cell? ⟨w.heap.size + 1, 7, none⟩ = some (.int .i64 0) := hTR.cell 7
      have f7 := hTR.frozen 7
      have s8 : wr.cell? ⟨w.heap.size + 1, 8, none⟩ = some (.int .i64 0) := hTR.cell 8
      have f8 := hTR.frozen 8
      have hy1 : w.heap.size + 1 < wr.heap.size := hTR.lt
      clear hTR
      go_wp2_with fail
      have hT0 := HTR9.out.set 0 (.int .i64 t.q.wells)
      have hT1 := hT0.set 1 (.slice A1 t.q.nw c1)
      have hT2 := hT1.set 2 (.slice A2 t.q.nf c2)
      have hT3 := hT2.set 3 (.slice (some ⟨go, 0, none⟩) t.no c3)
      have hT4 := hT3.set 4 (.slice (some ⟨gp, 0, none⟩) t.np c4)
      have hT5 := hT4.set 5 (.slice A6 t.ns c6)
      have hT6 := hT5.set 6 (.int .i64 t.far)
      have hT7 := hT6.set 7 (.int .i64 t.harm)
      have ty : ∃ cs, TBox wr (w.heap.size + 1) 62 cs := ⟨_, HTR9.out⟩
      refine bodyPost_ret (v := .agg #[.int .i64 t.q.wells, .slice A1 t.q.nw c1, .slice A2 t.q.nf c2, .slice (some ⟨go, 0, none⟩) t.no c3, .slice (some ⟨gp, 0, none⟩) t.np c4, .slice A6 t.ns c6, .int .i64 t.far, .int .i64 t.harm, .int .i64 t.many]) (by simp [results, Tryz.results25, go_sem, *]) rfl ⟨⟨A1, c1, A2, c2, go, c3, gp, c4, A6, c6, us, rfl, ?_, ?_, ?_, ?_, ?_⟩, ?_⟩
      · refine owns_lower (base := w.heap.size + 3) ?_ (by omega)
        have h := HO.out
        repeat with_reducible refine owns_setTy (t := 62) ?_ ?_ (by decide) _ _
        with_reducible exact h
        all_goals repeat (first | with_reducible refine TyB.set ?_ _ _ _ | with_reducible exact ty)
      · refine owns_lower (base := w5.heap.size) ?_ (by omega)
        have h := HV.out
        repeat with_reducible refine owns_setTy (t := 62) ?_ ?_ (by decide) _ _
        with_reducible exact h
        all_goals repeat (first | with_reducible refine TyB.set ?_ _ _ _ | with_reducible exact ty)
      · have h := HQ.out.imp (fun z hz => CopyAt.lower (base' := w.heap.size) hz (by omega))
        repeat with_reducible refine Clo.setTy (t := 62) ?_ ?_ (by decide) _ _
        with_reducible exact h
        all_goals repeat (first | with_reducible refine TyB.set ?_ _ _ _ | with_reducible exact ty)
      · have h := HP.out
        repeat with_reducible refine Clo.setTy (t := 62) ?_ ?_ (by decide) _ _
        with_reducible exact h
        all_goals repeat (first | with_reducible refine TyB.set ?_ _ _ _ | with_reducible exact ty)
      · have h := HR.out
        repeat with_reducible refine Clo.setTy (t := 62) ?_ ?_ (by decide) _ _
        with_reducible exact h
        all_goals repeat (first | with_reducible refine TyB.set ?_ _ _ _ | with_reducible exact ty)
      · exact (Below.setCell (p := ⟨w.heap.size + 1, 8, none⟩) (Below.setCell (p := ⟨w.heap.size + 1, 7, none⟩) (Below.setCell (p := ⟨w.heap.size + 1, 6, none⟩) (Below.setCell (p := ⟨w.heap.size + 1, 5, none⟩) (Below.setCell (p := ⟨w.heap.size + 1, 4, none⟩) (Below.setCell (p := ⟨w.heap.size + 1, 3, none⟩) (Below.setCell (p := ⟨w.heap.size + 1, 2, none⟩) (Below.setCell (p := ⟨w.heap.size + 1, 1, none⟩) (Below.setCell (p := ⟨w.heap.size + 1, 0, none⟩) HW.out (by simp) (.int .i64 t.q.wells)) (by simp) (.slice A1 t.q.nw c1)) (by simp) (.slice A2 t.q.nf c2)) (by simp) (.slice (some ⟨go, 0, none⟩) t.no c3)) (by simp) (.slice (some ⟨gp, 0, none⟩) t.np c4)) (by simp) (.slice A6 t.ns c6)) (by simp) (.int .i64 t.far)) (by simp) (.int .i64 t.harm)) (by simp) (.int .i64 t.many))
end Go.Proofs.YthnojgdckkdcgaaGreatDoor

namespace Go.Proofs.YthnojgdckkdcgaaGreatDoor
open Go.RowKit Go.Sort
theorem mirror_ask {t : Pt} (ok : t.Ok) (b : Bool) : t.mirror.askErr b = t.askErr b := by
  unfold Pt.askErr
  rw [Pt.err_ok ok, Pt.err_ok (mirror_ok ok)]
theorem mirror_know {t : Pt} (ok : t.Ok) (b : Bool) : t.mirror.knowErr b = t.knowErr b := by
  unfold Pt.knowErr
  rw [mirror_ask ok]
  rfl
theorem mirror_nearOut {t : Pt} (ok : t.Ok) (n : Int) : t.mirror.nearOut n = t.nearOut n := by
  show (if t.mirror.askErr (t.hasB n) = 0 then (if t.no = 0 then ((0 : Int), (3 : Int)) else (t.mirror.nearTo n.toNat t.no, 0)) else (0, t.mirror.askErr (t.hasB n))) = _
  rw [mirror_ask ok, mirror_near]
  rfl
theorem mirror_bestOut {t : Pt} (ok : t.Ok) : t.mirror.bestOut = t.bestOut := by
  unfold Pt.bestOut
  rw [mirror_know ok, (mirror_twin t).best rfl]
theorem mirror_cheapestOut {t : Pt} (ok : t.Ok) : t.mirror.cheapestOut = t.cheapestOut := by
  unfold Pt.cheapestOut
  rw [mirror_know ok, (mirror_twin t).cheapest rfl]
theorem mirror_pairOut {t : Pt} (ok : t.Ok) : t.mirror.pairOut = t.pairOut := by
  unfold Pt.pairOut
  rw [mirror_know ok, (mirror_twin t).pair rfl]
theorem mirror_frees (t : Pt) : t.mirror.frees = t.frees := (mirror_twin t).frees rfl
theorem mirror_who (t : Pt) {s : Nat} (hs : s < t.ns) : t.mirror.who s = t.who s := (mirror_twin t).whoL hs
theorem mirror_small {t : Pt} (h : t.Small) : t.mirror.Small := ⟨h.q, h.no, h.np, h.ns, fun i hi => ⟨(h.spot i hi).nr, (h.spot i hi).nf, (h.spot i hi).n, (h.spot i hi).len⟩⟩
/-- the first k of some numbers, seen from the other end -/
def mirO (f : Nat → Int) (k : Nat) : Nat → Int := fun j => if j < k then 99 - f j else f j
theorem mirO_zero (f : Nat → Int) : mirO f 0 = f := by
  funext j
  exact if_neg (Nat.not_lt_zero j)
theorem mirO_all (f : Nat → Int) (n : Nat) : intL (mirO f n) n = intL (fun j => 99 - f j) n := intL_congr fun _ h => if_pos h
theorem intL_set {f g : Nat → Int} {n k : Nat} {v : Int} (hv : g k = v) (he : ∀ j, j ≠ k → g j = f j) : (intL f n).set k (.int .i64 v) = intL g n := by
  refine List.ext_getElem? fun i => ?_
  rw [List.getElem?_set, intL_len]
  rcases Nat.lt_or_ge i n with h | h
  · by_cases e : k = i
    · subst e
      rw [if_pos rfl, if_pos h, intL_get g h, hv]
    · rw [if_neg e, intL_get f h, intL_get g h, he i fun h => e h.symm]
  · have h1 : (intL f n)[i]? = none := List.getElem?_eq_none (by rw [intL_len]; exact h)
    have h2 : (intL g n)[i]? = none := List.getElem?_eq_none (by rw [intL_len]; exact h)
    rw [h1, h2]
    split
    · rw [if_neg (by omega)]
    · rfl
theorem mirO_set (f : Nat → Int) (n k : Nat) : (intL (mirO f k) n).set k (.int .i64 (99 - f k)) = intL (mirO f (k + 1)) n :=
  intL_set (if_pos (Nat.lt_succ_self k)) fun j hj => by
    unfold mirO
    by_cases h : j < k
    · rw [if_pos h, if_pos (by omega)]
    · rw [if_neg h, if_neg (by omega)]
theorem TBox.apart {w : World} {b b' : Nat} {t t' : TypeId} {cs cs' : Array Value} (h : TBox w b t cs) (h' : TBox w b' t' cs') (hne : t ≠ t') : b ≠ b' := fun e => by
  subst e
  have h2 : w.heap[b]? = some (Obj.cells cs t (0, 0)) := h
  rw [show w.heap[b]? = some (Obj.cells cs' t' (0, 0)) from h'] at h2
  injection h2 with h2
  injection h2 with _ h2 _
  exact hne h2.symm
/-- a copied town while its old wells are turned about -/
structure StrAt (w : World) (base : Nat) (Bw : Option Addr) (dw : Nat) (Bf : Option Addr) (df go c3 gp : Nat) (Bs : Option Addr) (ds : Nat) (t : Pt) (f : Nat → Int) (us : List Value) : Prop where
  old : w.ownsRow base 3 1 (.slice (some ⟨go, 0, none⟩) t.no c3) t.no (intL f t.no)
  sp : w.ownsRow base 71 7 (.slice Bs t.ns ds) t.ns us
  q : Clo (stP t go) [3, 34, 101, 27] (fun z => CopyAt z base (.slice Bw t.q.nw dw) (.slice Bf t.q.nf df) t.q) w
  p : Clo (stP t go) [3] (fun z => RowK z (some ⟨gp, 0, none⟩) 3 (intL t.pence t.np)) w
  r : Clo (stP t go) [3, 34, 190] (fun z => SpRows z t.spot t.ns us) w
theorem StrAt.mono {w w' : World} {base : Nat} {Bw : Option Addr} {dw : Nat} {Bf : Option Addr} {df go c3 gp : Nat} {Bs : Option Addr} {ds : Nat} {t : Pt} {f : Nat → Int} {us : List Value} (h : StrAt w base Bw dw Bf df go c3 gp Bs ds t f us) (hb : Below w.heap.size w w') : StrAt w' base Bw dw Bf df go c3 gp Bs ds t f us := ⟨owns_below h.old hb, owns_below h.sp hb, h.q.mono hb, h.p.mono hb, h.r.mono hb⟩
theorem StrAt.step {w : World} {base : Nat} {Bw : Option Addr} {dw : Nat} {Bf : Option Addr} {df go c3 gp : Nat} {Bs : Option Addr} {ds : Nat} {t : Pt} {f : Nat → Int} {us : List Value} {k : Nat} (h : StrAt w base Bw dw Bf df go c3 gp Bs ds t (mirO f k) us) (hk : k < t.no) : StrAt (w.setCell ⟨go, k, none⟩ (.int .i64 (99 - f k))) base Bw dw Bf df go c3 gp Bs ds t (mirO f (k + 1)) us := by
  obtain ⟨hb, cur, htb, _⟩ := owns_box h.old
  have hn : ¬ stP t go go := stP_not (by omega)
  refine ⟨?_, owns_setT h.sp htb (by decide) _ _, h.q.set hn _ _, h.p.set hn _ _, h.r.set hn _ _⟩
  have := owns_put h.old k (.int .i64 (99 - f k))
  rw [mirO_set] at this
  exact this
theorem StrAt.cell {w : World} {base : Nat} {Bw : Option Addr} {dw : Nat} {Bf : Option Addr} {df go c3 gp : Nat} {Bs : Option Addr} {ds : Nat} {t : Pt} {f : Nat → Int} {us : List Value} (h : StrAt w base Bw dw Bf df go c3 gp Bs ds t f us) {k : Nat} (hk : k < t.no) : base ≤ go ∧ ∃ cur, TBox w go 3 cur ∧ w.cell? ⟨go, k, none⟩ = some (.int .i64 (f k)) := by
  obtain ⟨hb, cur, htb, e⟩ := owns_box h.old
  refine ⟨hb, cur, htb, (htb.cell k).trans ?_⟩
  have h2 := intL_get f hk
  rw [← e, List.getElem?_take, if_pos (by omega), Array.getElem?_toList] at h2
  exact h2
/-- a copied town, its rows -/
structure MirAt (w : World) (base : Nat) (Bw : Option Addr) (dw : Nat) (Bf : Option Addr) (df go c3 gp : Nat) (Bs : Option Addr) (ds : Nat) (t : Pt) : Prop where
  q : CopyAt w base (.slice Bw t.q.nw dw) (.slice Bf t.q.nf df) t.q
  old : w.ownsRow base 3 1 (.slice (some ⟨go, 0, none⟩) t.no c3) t.no (intL t.old t.no)
  pence : RowK w (some ⟨gp, 0, none⟩) 3 (intL t.pence t.np)
  spots : ∃ us, w.ownsRow base 71 7 (.slice Bs t.ns ds) t.ns us ∧ SpRows w t.spot t.ns us
theorem MirAt.mono {w w' : World} {base : Nat} {Bw : Option Addr} {dw : Nat} {Bf : Option Addr} {df go c3 gp : Nat} {Bs : Option Addr} {ds : Nat} {t : Pt} (h : MirAt w base Bw dw Bf df go c3 gp Bs ds t) (hb : Below w.heap.size w w') : MirAt w' base Bw dw Bf df go c3 gp Bs ds t := by
  obtain ⟨h1, h2, h3, us, h4, h5⟩ := h
  exact ⟨h1.mono hb, owns_below h2 hb, h3.mono hb, us, owns_below h4 hb, h5.mono hb⟩
theorem MirAt.pat {w : World} {base : Nat} {Bw : Option Addr} {dw : Nat} {Bf : Option Addr} {df go c3 gp : Nat} {Bs : Option Addr} {ds : Nat} {t : Pt} (h : MirAt w base Bw dw Bf df go c3 gp Bs ds t) : PAt w Bw Bf (some ⟨go, 0, none⟩) (some ⟨gp, 0, none⟩) Bs t := by
  obtain ⟨h1, h2, h3, us, h4, h5⟩ := h
  obtain ⟨Aw, cw, Af, cf, e1, e2, hq⟩ := h1.qat
  obtain ⟨Ao, co, e3, ho⟩ := RowK.own h2
  obtain ⟨As, cs, e4, hs⟩ := RowK.own h4
  injection e1 with e1 _ _
  injection e2 with e2 _ _
  injection e3 with e3 _ _
  injection e4 with e4 _ _
  subst e1 e2 e3 e4
  exact ⟨hq, intsAt_row.2 ho.row, intsAt_row.2 h3.row, h5.spots hs.row⟩
/-- the old wells and the first k spots seen from the other end -/
def Pt.mirT (t : Pt) (k : Nat) : Pt := { t with old := fun w => 99 - t.old w, spot := fun j => if j < k then { t.spot j with at_ := 99 - (t.spot j).at_ } else t.spot j }
theorem StrAt.done {w : World} {base : Nat} {Bw : Option Addr} {dw : Nat} {Bf : Option Addr} {df go c3 gp : Nat} {Bs : Option Addr} {ds : Nat} {t : Pt} {us : List Value} (h : StrAt w base Bw dw Bf df go c3 gp Bs ds t (mirO t.old t.no) us) : MirAt w base Bw dw Bf df go c3 gp Bs ds (t.mirT 0) := by
  refine ⟨h.q.out, ?_, h.p.out, us, h.sp, ?_⟩
  · have h2 := h.old
    rw [mirO_all] at h2
    exact h2
  · have e : (t.mirT 0).spot = t.spot := funext fun _ => rfl
    rw [e]
    exact h.r.out
theorem mirT_spot (t : Pt) (k : Nat) : (t.mirT k).spot k = t.spot k := if_neg (Nat.lt_irrefl k)
theorem MirAt.step {w : World} {base : Nat} {Bw : Option Addr} {dw : Nat} {Bf : Option Addr} {df go c3 gp g ds : Nat} {t : Pt} {k : Nat} {c1 c2 c3' c4 c5 c6 : Value} (h : MirAt w base Bw dw Bf df go c3 gp (some ⟨g, 0, none⟩) ds (t.mirT k)) (hk : k < t.ns) (hl : SpK w [.int .i64 (t.spot k).at_, c1, c2, c3', c4, c5, c6] (t.spot k)) : MirAt (Go.Proofs.YthnojgdckkdcgaaGreatDoor.set7 w g (k * 7) (.int .i64 (99 - (t.spot k).at_)) c1 c2 c3' c4 c5 c6) base Bw dw Bf df go c3 gp (some ⟨g, 0, none⟩) ds (t.mirT (k + 1)) := by
  obtain ⟨h1, h2, h3, us, h4, h5⟩ := h
  obtain ⟨_, cur, hb, _⟩ := owns_box h4
  have hK := set7_kept (l := [3, 34, 190, 101, 27]) hb (by decide) (k * 7) (.int .i64 (99 - (t.spot k).at_)) c1 c2 c3' c4 c5 c6
  refine ⟨h1.kept hK (by simp) (by simp) (by simp) (by simp), owns_kept h2 hK (by simp), h3.kept hK (by simp), _, set7_owns h4 _ _ _ _ _ _ _ _, ?_⟩
  refine (h5.kept hK (by simp) (by simp) (by simp)).put hk (fun j hj => ?_) ?_
  · show (if j < k + 1 then _ else t.spot j) = if j < k then _ else t.spot j
    by_cases h : j < k
    · rw [if_pos h, if_pos (by omega)]
    · rw [if_neg h, if_neg (by omega)]
  · rw [show (t.mirT (k + 1)).spot k = { t.spot k with at_ := 99 - (t.spot k).at_ } from if_pos (Nat.lt_succ_self k)]
    obtain ⟨Ar, Af, cr, cf, u, e, hr, hf, hu⟩ := hl.kept hK (by simp) (by simp) (by simp)
    simp only [List.cons.injEq, true_and, and_true] at e
    obtain ⟨rfl, rfl, rfl, rfl, rfl, rfl⟩ := e
    exact ⟨Ar, Af, cr, cf, _, rfl, hr, hf, hu⟩
theorem MirAt.done {w : World} {base : Nat} {Bw : Option Addr} {dw : Nat} {Bf : Option Addr} {df go c3 gp : Nat} {Bs : Option Addr} {ds : Nat} {t : Pt} (h : MirAt w base Bw dw Bf df go c3 gp Bs ds (t.mirT t.ns)) : PAt w Bw Bf (some ⟨go, 0, none⟩) (some ⟨gp, 0, none⟩) Bs t.mirror := by
  obtain ⟨h1, h2, h3, h4⟩ := h.pat
  refine ⟨h1, h2, h3, ?_⟩
  rcases h4 with h0 | ⟨b, o, e, hlt, hc⟩
  · exact .inl h0
  · refine .inr ⟨b, o, e, hlt, fun i hi => ?_⟩
    have := hc i hi
    rw [show (t.mirT t.ns).spot i = t.mirror.spot i from if_pos hi] at this
    exact this
end Go.Proofs.YthnojgdckkdcgaaGreatDoor

namespace Go.Proofs.YthnojgdckkdcgaaGreatDoor
open Go.RowKit Go.Sort
end Go.Proofs.YthnojgdckkdcgaaGreatDoor

