/- Parts joined: what all claims of this seat need. -/
import Derived.Test.YthnojgdckkdcgaaGreatDoorNSP
import Derived.Test.YthnojgdckkdcgaaGreatDoorNSR
set_option linter.unusedSimpArgs false
set_option linter.unusedVariables false
namespace Go.Proofs.YthnojgdckkdcgaaGreatDoor
open Go.RowKit Go.Sort Go.Shelf
theorem ex_act (mk : (Nat → Value) → Act) (A : Act) (h : A = mk (fun k => A.tmps[k]?.getD undef)) : ∃ v, A = mk v := ⟨_, h⟩
theorem ex_act2 (mk : (Nat → Value) → Nat → Nat → Act) (A : Act) (b c : Nat) {R : Nat → Nat → Prop} (h : A = mk (fun k => A.tmps[k]?.getD undef) b c) (hR : R b c) : ∃ v b c, A = mk v b c ∧ R b c := ⟨_, b, c, h, hR⟩
theorem tbox_ne {w : World} {b b' : Nat} {t t' : TypeId} {cs cs' : Array Value} (h : TBox w b t cs) (h' : TBox w b' t' cs') (hne : t ≠ t') : b ≠ b' := fun e => by
  subst e
  have e2 := h.symm.trans h'
  injection e2 with e2
  injection e2 with _ e3
  exact hne e3
/-- three stores to boxes of numbers keep the boxes of other kinds -/
theorem set3_same {W : World} {b2 b3 b6 j : Nat} {x : Pr} {ty : TypeId} {cs : Array Value} (h : PrAt W b2 b3 b6 x) (v2 v3 v6 : Value) (hj : TBox W j ty cs) (ht : 3 ≠ ty) : TBox (((W.setCell ⟨b2, 0, none⟩ v2).setCell ⟨b3, 0, none⟩ v3).setCell ⟨b6, 0, none⟩ v6) j ty cs :=
  ((hj.other (fun e => (tbox_ne (show TBox W b2 3 _ from h.one) hj ht) e) 0 v2).other (fun e => (tbox_ne (show TBox W b3 3 _ from h.other) hj ht) e) 0 v3).other (fun e => (tbox_ne (show TBox W b6 3 _ from h.least) hj ht) e) 0 v6
/-- three stores, so far as they have been done -/
def set3 (b2 b3 b6 : Nat) (p q r : Int) (L : Nat → Bool) (w : World) : World :=
  if L 7 then (if L 6 then (if L 5 then w.setCell ⟨b2, 0, none⟩ (.int .i64 p) else w).setCell ⟨b3, 0, none⟩ (.int .i64 q) else (if L 5 then w.setCell ⟨b2, 0, none⟩ (.int .i64 p) else w)).setCell ⟨b6, 0, none⟩ (.int .i64 r)
  else (if L 6 then (if L 5 then w.setCell ⟨b2, 0, none⟩ (.int .i64 p) else w).setCell ⟨b3, 0, none⟩ (.int .i64 q) else (if L 5 then w.setCell ⟨b2, 0, none⟩ (.int .i64 p) else w))
def St3 (W4 : World) (b2 b3 b6 : Nat) (p q r : Int) (L : Nat → Bool) (W : World) : Prop := ∃ w6, Below W4.heap.size W4 w6 ∧ W = set3 b2 b3 b6 p q r L w6
theorem St3.keep {W4 : World} {b2 b3 b6 : Nat} {p q r : Int} {L : Nat → Bool} {W : World} (h : St3 W4 b2 b3 b6 p q r L W) (k : Nat) (hk : k < 5) : St3 W4 b2 b3 b6 p q r (fun j => L j || j == k) W := by
  obtain ⟨w6, h1, h2⟩ := h
  refine ⟨w6, h1, h2.trans ?_⟩
  have e5 : ((5 : Nat) == k) = false := by simp; omega
  have e6 : ((6 : Nat) == k) = false := by simp; omega
  have e7 : ((7 : Nat) == k) = false := by simp; omega
  simp only [set3, e5, e6, e7, Bool.or_false]
theorem St3.five {W4 : World} {b2 b3 b6 : Nat} {p q r : Int} {L : Nat → Bool} {W : World} (h : St3 W4 b2 b3 b6 p q r L W) (h5 : L 5 = false) (h6 : L 6 = false) (h7 : L 7 = false) : St3 W4 b2 b3 b6 p q r (fun j => L j || j == 5) (W.setCell ⟨b2, 0, none⟩ (.int .i64 p)) := by
  obtain ⟨w6, h1, h2⟩ := h
  refine ⟨w6, h1, ?_⟩
  rw [h2]
  simp [set3, h5, h6, h7]
theorem St3.six {W4 : World} {b2 b3 b6 : Nat} {p q r : Int} {L : Nat → Bool} {W : World} (h : St3 W4 b2 b3 b6 p q r L W) (h6 : L 6 = false) (h7 : L 7 = false) : St3 W4 b2 b3 b6 p q r (fun j => L j || j == 6) (W.setCell ⟨b3, 0, none⟩ (.int .i64 q)) := by
  obtain ⟨w6, h1, h2⟩ := h
  refine ⟨w6, h1, ?_⟩
  rw [h2]
  simp [set3, h6, h7]
theorem St3.seven {W4 : World} {b2 b3 b6 : Nat} {p q r : Int} {L : Nat → Bool} {W : World} (h : St3 W4 b2 b3 b6 p q r L W) (h7 : L 7 = false) : St3 W4 b2 b3 b6 p q r (fun j => L j || j == 7) (W.setCell ⟨b6, 0, none⟩ (.int .i64 r)) := by
  obtain ⟨w6, h1, h2⟩ := h
  refine ⟨w6, h1, ?_⟩
  rw [h2]
  simp [set3, h7]
theorem St3.all {W4 : World} {b2 b3 b6 : Nat} {p q r : Int} {L : Nat → Bool} {W : World} (h : St3 W4 b2 b3 b6 p q r L W) (ha : ∀ j, j < 8 → L j = true) : ∃ w6, Below W4.heap.size W4 w6 ∧ W = ((w6.setCell ⟨b2, 0, none⟩ (.int .i64 p)).setCell ⟨b3, 0, none⟩ (.int .i64 q)).setCell ⟨b6, 0, none⟩ (.int .i64 r) := by
  obtain ⟨w6, h1, h2⟩ := h
  refine ⟨w6, h1, h2.trans ?_⟩
  simp [set3, ha 5 (by decide), ha 6 (by decide), ha 7 (by decide)]
theorem boxed_if {w : World} {b b' : Nat} {v : Value} (h : Boxed w b 3 v) (c : Bool) (u : Value) : ∃ v', Boxed (if c then w.setCell ⟨b', 0, none⟩ u else w) b 3 v' ∧ (b ≠ b' → v' = v) := by
  cases c
  · exact ⟨v, h, fun _ => rfl⟩
  · by_cases e : b = b'
    · subst e; exact ⟨u, h.set u, fun h => absurd rfl h⟩
    · exact ⟨v, h.other e u, fun _ => rfl⟩
theorem boxed_set3 {w : World} {b b2 b3 b6 : Nat} {p q r : Int} {L : Nat → Bool} {v : Value} (h : Boxed w b 3 v) : ∃ v', Boxed (set3 b2 b3 b6 p q r L w) b 3 v' ∧ (b ≠ b2 → b ≠ b3 → b ≠ b6 → v' = v) := by
  obtain ⟨v1, h1, e1⟩ := boxed_if (b' := b2) h (L 5) (.int .i64 p)
  obtain ⟨v2, h2, e2⟩ := boxed_if (b' := b3) h1 (L 6) (.int .i64 q)
  obtain ⟨v3, h3, e3⟩ := boxed_if (b' := b6) h2 (L 7) (.int .i64 r)
  exact ⟨v3, h3, fun n2 n3 n6 => (e3 n6).trans ((e2 n3).trans (e1 n2))⟩
theorem St3.facts {W4 : World} {b2 b3 b6 b7 b8 : Nat} {p q r : Int} {x : Pr} {v7 v8 : Value} (hp : PrAt W4 b2 b3 b6 x) (h7 : Boxed W4 b7 3 v7) (h8 : Boxed W4 b8 3 v8) (n72 : b7 ≠ b2) (n73 : b7 ≠ b3) (n76 : b7 ≠ b6) (n82 : b8 ≠ b2) (n83 : b8 ≠ b3) (n86 : b8 ≠ b6) {L : Nat → Bool} {W : World} (h : St3 W4 b2 b3 b6 p q r L W) :
    Boxed W b7 3 v7 ∧ Boxed W b8 3 v8 ∧ (∃ v, Boxed W b2 3 v) ∧ (∃ v, Boxed W b3 3 v) ∧ ∃ v, Boxed W b6 3 v := by
  obtain ⟨w6, hb, rfl⟩ := h
  have g : ∀ {b v}, Boxed W4 b 3 v → Boxed w6 b 3 v := fun h => (hb.block _ h.lt).trans h
  obtain ⟨u7, k7, e7⟩ := boxed_set3 (b2 := b2) (b3 := b3) (b6 := b6) (p := p) (q := q) (r := r) (L := L) (g h7)
  obtain ⟨u8, k8, e8⟩ := boxed_set3 (b2 := b2) (b3 := b3) (b6 := b6) (p := p) (q := q) (r := r) (L := L) (g h8)
  obtain ⟨u2, k2, _⟩ := boxed_set3 (b2 := b2) (b3 := b3) (b6 := b6) (p := p) (q := q) (r := r) (L := L) (g hp.one)
  obtain ⟨u3, k3, _⟩ := boxed_set3 (b2 := b2) (b3 := b3) (b6 := b6) (p := p) (q := q) (r := r) (L := L) (g hp.other)
  obtain ⟨u6, k6, _⟩ := boxed_set3 (b2 := b2) (b3 := b3) (b6 := b6) (p := p) (q := q) (r := r) (L := L) (g hp.least)
  rw [e7 n72 n73 n76] at k7
  rw [e8 n82 n83 n86] at k8
  exact ⟨k7, k8, ⟨_, k2⟩, ⟨_, k3⟩, ⟨_, k6⟩⟩
attribute [local go_sem] Oper.semAt_some
attribute [local irreducible] wpCalm clsAt wpLst
set_option maxHeartbeats 16000000 in
set_option maxRecDepth 100000 in
theorem pairP_any (Aw Af Ao Ap As : Option Addr) (cw cf co cp cs : Nat) (t : Pt) (w : World) (hs : t.Small) (hT : PAt w Aw Af Ao Ap As t) (hB : TabAt w) (hN : NoneAt w) :
    Calls Tryz.prog 32 #[.agg #[.int .i64 t.q.wells, .slice Aw t.q.nw cw, .slice Af t.q.nf cf, .slice Ao t.no co, .slice Ap t.np cp, .slice As t.ns cs, .int .i64 t.far, .int .i64 t.harm, .int .i64 t.many]] w fun e w' => e = .returned (.tuple #[.int .i64 t.pairOut.1, .int .i64 t.pairOut.2.1, .int .i64 t.pairOut.2.2]) ∧ Below w.heap.size w w' := by
  have hb0 : Below w.heap.size w (((w.alloc (.cells #[.int .i64 t.q.wells, .slice Aw t.q.nw cw, .slice Af t.q.nf cf, .slice Ao t.no co, .slice Ap t.np cp, .slice As t.ns cs, .int .i64 t.far, .int .i64 t.harm, .int .i64 t.many] 62)).alloc (.cells #[.int .i64 0] 3)).alloc (.cells #[.int .i64 0] 3)) := bAlloc (bAlloc (bAlloc (Below.refl _ _) _) _) _
  have HT := Lib.hid (hT.mono hb0)
  have HTB := Lib.hid (hB.mono hb0)
  have HTT := Lib.hid hT
  have HNN := Lib.hid hN
  have HB0 := Lib.hid hb0
  have HSM := Lib.hid hs
  obtain ⟨er, her⟩ : ∃ v, t.knowErr true = v := ⟨_, rfl⟩
  have HE := Lib.hid (show t.pairOut = if er = 0 then (if t.pair.least < 0 then (0, 0, 3) else (t.pair.one, t.pair.other, 0)) else (0, 0, er) by unfold Pt.pairOut; rw [her])
  have HER := Lib.hid her
  have HT0 := Lib.hid (show TBox (((w.alloc (.cells #[.int .i64 t.q.wells, .slice Aw t.q.nw cw, .slice Af t.q.nf cf, .slice Ao t.no co, .slice Ap t.np cp, .slice As t.ns cs, .int .i64 t.far, .int .i64 t.harm, .int .i64 t.many] 62)).alloc (.cells #[.int .i64 0] 3)).alloc (.cells #[.int .i64 0] 3)) w.heap.size 62 #[.int .i64 t.q.wells, .slice Aw t.q.nw cw, .slice Af t.q.nf cf, .slice Ao t.no co, .slice Ap t.np cp, .slice As t.ns cs, .int .i64 t.far, .int .i64 t.harm, .int .i64 t.many] from (TBox.new w _ _).mono (bAlloc (bAlloc (Below.refl _ _) _) _))
  have HR20 := Lib.hid (show TBox (((w.alloc (.cells #[.int .i64 t.q.wells, .slice Aw t.q.nw cw, .slice Af t.q.nf cf, .slice Ao t.no co, .slice Ap t.np cp, .slice As t.ns cs, .int .i64 t.far, .int .i64 t.harm, .int .i64 t.many] 62)).alloc (.cells #[.int .i64 0] 3)).alloc (.cells #[.int .i64 0] 3)) (w.heap.size + 1) 3 #[.int .i64 0] from by have := (TBox.new (w.alloc (.cells #[.int .i64 t.q.wells, .slice Aw t.q.nw cw, .slice Af t.q.nf cf, .slice Ao t.no co, .slice Ap t.np cp, .slice As t.ns cs, .int .i64 t.far, .int .i64 t.harm, .int .i64 t.many] 62)) #[.int .i64 0] 3).mono (bAlloc (Below.refl _ _) (.cells #[.int .i64 0] 3)); simpa using this)
  have HR30 := Lib.hid (show TBox (((w.alloc (.cells #[.int .i64 t.q.wells, .slice Aw t.q.nw cw, .slice Af t.q.nf cf, .slice Ao t.no co, .slice Ap t.np cp, .slice As t.ns cs, .int .i64 t.far, .int .i64 t.harm, .int .i64 t.many] 62)).alloc (.cells #[.int .i64 0] 3)).alloc (.cells #[.int .i64 0] 3)) (w.heap.size + 1 + 1) 3 #[.int .i64 0] from by have := TBox.new ((w.alloc (.cells #[.int .i64 t.q.wells, .slice Aw t.q.nw cw, .slice Af t.q.nf cf, .slice Ao t.no co, .slice Ap t.np cp, .slice As t.ns cs, .int .i64 t.far, .int .i64 t.harm, .int .i64 t.many] 62)).alloc (.cells #[.int .i64 0] 3)) #[.int .i64 0] 3; simpa using this)
  clear hs hT hB hN hb0 her
  refine (callsIn_wide (n := 7)).1 ?_
  refine callsIn_of_wp_marks Tryz.func32 rfl trivial ?_ rfl
  simp only [Tryz.ntmps32, List.size_toArray, List.length_cons, List.length_nil, Nat.reduceAdd, Nat.reduceSub, Array.replicate_succ, Array.replicate_zero, List.push_toArray, List.append_toArray, List.nil_append, List.cons_append]
  gi_wp2
  refine ⟨trivial, (callsIn_wide.2 (openP_any Aw Af Ao Ap As cw cf co cp cs t true _ HSM.out HT.out HTB.out)).mono ?_⟩
  rintro e w1 ⟨ho, hb1⟩
  rw [HER.out] at ho
  have HB1 := Lib.hid (bTrans HB0.out hb1)
  have HT1 := Lib.hid (HT0.out.mono hb1)
  have HR2 := Lib.hid (HR20.out.mono hb1)
  have HR3 := Lib.hid (HR30.out.mono hb1)
  have hz1 := hb1.size
  simp only [World.size_alloc] at hz1
  have r2 := HR2.out.cell 0
  have r2f := HR2.out.frozen 0
  have r2l := HR2.out.lt
  have r3 := HR3.out.cell 0
  have r3f := HR3.out.frozen 0
  have r3l := HR3.out.lt
  by_cases he : er = 0
  case neg =>
    obtain rfl := ho.1 he
    have g0 : (er != 0) = true := by simp [he]
    have HZ := Lib.hid (show t.pairOut = (0, 0, er) by rw [HE.out, if_neg he])
    clear ho he hb1
    gi_wp2
    refine ⟨.tuple #[.int .i64 0, .int .i64 0, .int .i64 er], by simp [results, Tryz.results32, go_sem, *], by rw [HZ.out], ?_⟩
    exact bAlloc (Below.setCell (p := ⟨w.heap.size + 1 + 1, 0, none⟩) (Below.setCell (p := ⟨w.heap.size + 1, 0, none⟩) HB1.out (by simp <;> omega) _) (by simp <;> omega) _) _
  subst he
  obtain ⟨ok, _, _⟩ := Pt.knowErr_zero HER.out
  obtain ⟨C, Al, cl, rfl, hst, hlo⟩ := ho.2 rfl
  have HOK := Lib.hid ok
  have HPO := Lib.hid (show t.pairOut = if (t.pairAll t.cans).least < 0 then (0, 0, 3) else ((t.pairAll t.cans).one, (t.pairAll t.cans).other, 0) by rw [HE.out, if_pos rfl, pairAll_out])
  have HST := Lib.hid hst
  have HLO := Lib.hid (show StrLo (w.heap.size + 3) C Al t.q.leftL.length by simpa using hlo)
  have hb6 : Below w1.heap.size w1 ((w1.alloc (.cells #[.pointer (some ⟨C, 0, none⟩)] 135)).alloc (.cells #[.int .i64 (-1)] 3)) := bAlloc (bAlloc (Below.refl _ _) _) _
  have HG6 := Lib.hid ((show GoodP w w1 w1 from ⟨HB1.out, fun _ _ _ => rfl, Nat.le_refl _⟩).grow hb6)
  have HT6 := Lib.hid (HT1.out.mono hb6)
  have HS6 := Lib.hid (show TBox ((w1.alloc (.cells #[.pointer (some ⟨C, 0, none⟩)] 135)).alloc (.cells #[.int .i64 (-1)] 3)) w1.heap.size 135 #[.pointer (some ⟨C, 0, none⟩)] from (TBox.new w1 _ _).mono (bAlloc (Below.refl _ _) _))
  have HL6 := Lib.hid (show Boxed ((w1.alloc (.cells #[.pointer (some ⟨C, 0, none⟩)] 135)).alloc (.cells #[.int .i64 (-1)] 3)) (w1.heap.size + 1) 3 (.int .i64 (-1)) from by have := TBox.new (w1.alloc (.cells #[.pointer (some ⟨C, 0, none⟩)] 135)) #[.int .i64 (-1)] 3; rw [World.size_alloc] at this; exact this)
  have HP6 := Lib.hid (show PrAt ((w1.alloc (.cells #[.pointer (some ⟨C, 0, none⟩)] 135)).alloc (.cells #[.int .i64 (-1)] 3)) (w.heap.size + 1) (w.heap.size + 1 + 1) (w1.heap.size + 1) (t.pairAll []) from ⟨HR2.out.mono hb6, HR3.out.mono hb6, HL6.out⟩)
  have HGS := Lib.hid (fun (W : World) (h : GoodP w w1 W) => And.intro (goodP_street h HTT.out HST.out HLO.out) (HNN.out.mono h.1))
  have HSEQ := Lib.hid (whole_seqG 6 C Aw Af Ao Ap As cw cf co cp cs t Al cl (GoodP w w1) ((w1.alloc (.cells #[.pointer (some ⟨C, 0, none⟩)] 135)).alloc (.cells #[.int .i64 (-1)] 3)) (by decide) HGS.out (fun _ _ h hb => h.grow hb) HG6.out HOK.out HSM.out)
  clear ho hst hlo hb1 ok hb6 r2 r2f r2l r3 r3f r3l
  gi_wp2
  refine wpIn_range_capsH (gf := 87) (bnd := #[.pointer (some ⟨C, 0, none⟩)]) (lb := #[]) rfl (by decide) rfl trivial (enters_of Tryz.func87 (by kernel_rfl)) HSEQ.out (fun h k => ⟨fun a => k.1 (h.1 a), Nat.le_trans h.2.1 k.2.1, fun j hj => (k.2.2 j ((h.2.2 j hj).trans hj)).trans (h.2.2 j hj)⟩)
    (fun W l o o' hl ho hc => ⟨fun hg => (GoodP.own (β := Unit) (B := w1.heap.size + 1 + 1) (by omega) (by omega)).putObj (s := ()) _ hg (by simpa using hl) ho hc, by simp [World.putObj], fun k hk => World.putObj_heap_other (fun e => by subst e; rw [ho] at hk; injection hk with hk; subst hk; cases hc)⟩) (fun _ => rfl)
    (fun pre W => PrAt W (w.heap.size + 1) (w.heap.size + 1 + 1) (w1.heap.size + 1) (t.pairAll pre) ∧ GoodP w w1 W ∧ TBox W w1.heap.size 135 #[.pointer (some ⟨C, 0, none⟩)] ∧ TBox W w.heap.size 62 #[.int .i64 t.q.wells, .slice Aw t.q.nw cw, .slice Af t.q.nf cf, .slice Ao t.no co, .slice Ap t.np cp, .slice As t.ns cs, .int .i64 t.far, .int .i64 t.harm, .int .i64 t.many])
    (fun c pre W => False)
    (OwnFrom.and ((PrAt.own _ _ _ (fun pre => t.pairAll pre)).from _) (OwnFrom.and (GoodP.own (by simp <;> omega) (by simp <;> omega)) (OwnFrom.and ((tbox_own _ _ _).from _) ((tbox_own _ _ _).from _))))
    (fun c _ _ _ _ hs _ _ => hs)
    ⟨HP6.out, HG6.out, HS6.out, HT6.out⟩
    (fun x a' W => ∃ (v : Nat → Value) (b7 b8 : Nat), a' = { tmps := #[(v 0), .pointer (some ⟨w.heap.size, 0, none⟩), .pointer (some ⟨w.heap.size + 1, 0, none⟩), .pointer (some ⟨w.heap.size + 1 + 1, 0, none⟩), .int .i64 0, .pointer (some ⟨w1.heap.size, 0, none⟩), .pointer (some ⟨w1.heap.size + 1, 0, none⟩), .pointer (some ⟨b7, 0, none⟩), .pointer (some ⟨b8, 0, none⟩), (v 9), (v 10), (v 11), (v 12), (v 13), (v 14), (v 15), (v 16), (v 17), (v 18), (v 19), (v 20), (v 21), (v 22), (v 23), (v 24), (v 25), (v 26), (v 27), (v 28), (v 29), (v 30), (v 31), (v 32), (v 33), (v 34), (v 35), (v 36), (v 37), (v 38), (v 39), (v 40), (v 41), (v 42), (v 43), (v 44), (v 45), (v 46), (v 47), (v 48), (v 49), (v 50), (v 51), (v 52), (v 53), (v 54), (v 55), (v 56), (v 57), (v 58), (v 59), (v 60), (v 61), (v 62), (v 63), (v 64), (v 65), (v 66), (v 67)], defers := [] } ∧ w1.heap.size + 1 + 1 ≤ b7 ∧ w1.heap.size + 1 + 1 ≤ b8 ∧ Boxed W b7 3 (.int .i64 x) ∧ Boxed W b8 3 (.int .i64 (t.whole x.toNat)))
    (fun x a' _ X Y row hs hg hr => by
      obtain ⟨v, b7, b8, h1, h2, h3, h4, h5⟩ := hs
      exact ⟨v, b7, b8, h1, h2, h3, boxed_own (β := Unit) b7 _ (fun _ => .int .i64 x) () X Y row h4 hg (fun r e => (hr r e).2), boxed_own (β := Unit) b8 _ (fun _ => .int .i64 (t.whole x.toNat)) () X Y row h5 hg (fun r e => (hr r e).2)⟩) ?assign ?body ?done ?stop
  case assign =>
    rintro l pre x W K hsz ⟨hp, hg, hs5, ht⟩ hK
    simp only [World.size_alloc] at hsz
    simp only [encW]
    gi_wp2
    have hb : Below W.heap.size W ((W.alloc (.cells #[.int .i64 x] 3)).alloc (.cells #[.int .i64 (t.whole x.toNat)] 3)) := bAlloc (bAlloc (Below.refl _ _) _) _
    refine hK _ _ (keeps_below hb) ⟨fun h => h.grow hb, hb.size, fun k hk => hb.block k (Array.getElem?_eq_some_iff.1 hk).1⟩ ⟨(hp.alloc _).alloc _, hg.grow hb, hs5.mono hb, ht.mono hb⟩ (ex_act2 _ _ W.heap.size (W.heap.size + 1) (by rfl) ⟨hsz, by omega, (Boxed.new W _ _).alloc _, ?_⟩)
    have := Boxed.new (W.alloc (.cells #[.int .i64 x] 3)) 3 (.int .i64 (t.whole x.toNat))
    rw [World.size_alloc] at this
    exact this
  case body =>
    rintro l pre x a' W hsz ⟨r0, hr0⟩ ⟨hp, hg, hs5, ht⟩ ⟨v, b7, b8, rfl, h7, h8, hx7, hx8⟩ hlen
    obtain ⟨a, ha, hca, rfl⟩ := selTo_mem.1 (show x ∈ selTo t.canB t.ns from hlen.subset (List.mem_append_right _ (List.mem_singleton.2 rfl)))
    have HA := Lib.hid ha
    have HLEN := Lib.hid hlen
    rw [Int.toNat_natCast] at hx8
    have HP := Lib.hid hp
    have HG := Lib.hid hg
    have HS5 := Lib.hid hs5
    have HTW := Lib.hid ht
    have HX7 := Lib.hid hx7
    have HX8 := Lib.hid hx8
    have HR0 := Lib.hid hr0
    obtain ⟨s0, s0l⟩ := hs5.c1
    simp only [World.size_alloc] at hsz
    have HSEQ2 := Lib.hid (whole_seqG 4 C Aw Af Ao Ap As cw cf co cp cs t Al cl (GoodP w w1) W (by decide) HGS.out (fun _ _ h hb => h.grow hb) hg HOK.out HSM.out)
    have l7 := hx7.lt
    have l8 := hx8.lt
    clear hp hg hs5 ht hx7 hx8 hlen ha hca
    gi_wp2
    refine wpIn_range_capsN (gf := 87) (bnd := #[.pointer (some ⟨C, 0, none⟩)]) (lb := #[]) rfl HR0.out (by decide) rfl trivial (enters_of Tryz.func87 (by kernel_rfl)) HSEQ2.out (fun h k => ⟨fun a => k.1 (h.1 a), Nat.le_trans h.2.1 k.2.1, fun j hj => (k.2.2 j ((h.2.2 j hj).trans hj)).trans (h.2.2 j hj)⟩)
      (fun X l o o' hl ho hc => ⟨fun hg => (GoodP.own (β := Unit) (B := w1.heap.size + 1 + 1) (by omega) (by omega)).putObj (s := ()) _ hg (by omega) ho hc, by simp [World.putObj], fun k hk => World.putObj_heap_other (fun e => by subst e; rw [ho] at hk; injection hk with hk; subst hk; cases hc)⟩) (fun _ => rfl)
      (fun pre2 X => PrAt X (w.heap.size + 1) (w.heap.size + 1 + 1) (w1.heap.size + 1) (t.pairRow a pre2 (t.pairAll pre)) ∧ GoodP w w1 X ∧ TBox X w1.heap.size 135 #[.pointer (some ⟨C, 0, none⟩)] ∧ TBox X w.heap.size 62 #[.int .i64 t.q.wells, .slice Aw t.q.nw cw, .slice Af t.q.nf cf, .slice Ao t.no co, .slice Ap t.np cp, .slice As t.ns cs, .int .i64 t.far, .int .i64 t.harm, .int .i64 t.many] ∧ Boxed X b7 3 (.int .i64 (a : Int)) ∧ Boxed X b8 3 (.int .i64 (t.whole a)) ∧ KeepsFrom (w1.heap.size + 1 + 1) W X ∧ (∀ k : Nat, W.heap[k]? = some (Obj.cells #[.pointer (some ⟨C, 0, none⟩)] 135 (0, 0)) → X.heap[k]? = W.heap[k]?))
      (fun c pre W => False)
      (OwnFrom.and ((PrAt.own _ _ _ (fun pre2 => t.pairRow a pre2 (t.pairAll pre))).from _) (OwnFrom.and (GoodP.own (by omega) (by omega)) (OwnFrom.and ((tbox_own _ _ _).from _) (OwnFrom.and ((tbox_own _ _ _).from _) (OwnFrom.and ((boxed_own _ _ (fun _ => .int .i64 (a : Int))).from _) (OwnFrom.and ((boxed_own _ _ (fun _ => .int .i64 (t.whole a))).from _) (OwnFrom.and (ownFrom_keepsFrom (Nat.le_refl _)) ((ptrs_own C W).from _))))))))
      (fun c _ _ _ _ hs _ _ => hs)
      ⟨HP.out, HG.out, HS5.out, HTW.out, HX7.out, HX8.out, KeepsFrom.refl _ _, fun _ _ => rfl⟩
      (fun y a' X => ∃ (z : Nat → Value), a' = { tmps := #[(z 0), .pointer (some ⟨w.heap.size, 0, none⟩), .pointer (some ⟨w.heap.size + 1, 0, none⟩), .pointer (some ⟨w.heap.size + 1 + 1, 0, none⟩), .int .i64 0, .pointer (some ⟨w1.heap.size, 0, none⟩), .pointer (some ⟨w1.heap.size + 1, 0, none⟩), .pointer (some ⟨b7, 0, none⟩), .pointer (some ⟨b8, 0, none⟩), .int .i64 y, .int .i64 (t.whole y.toNat), (z 11), (z 12), (z 13), (z 14), (z 15), (z 16), (z 17), (z 18), (z 19), (z 20), (z 21), (z 22), (z 23), (z 24), (z 25), (z 26), (z 27), (z 28), (z 29), (z 30), (z 31), (z 32), (z 33), (z 34), (z 35), (z 36), (z 37), (z 38), (z 39), (z 40), (z 41), (z 42), (z 43), (z 44), (z 45), (z 46), (z 47), (z 48), (z 49), (z 50), (z 51), (z 52), (z 53), (z 54), (z 55), (z 56), (z 57), (z 58), (z 59), (z 60), (z 61), (z 62), (z 63), (z 64), (z 65), (z 66), (z 67)], defers := [] })
      (fun y a' _ X Y row hs hg hr => hs) ?assign2 ?body2 ?done2 ?stop2
    case assign2 =>
      rintro l2 pre2 y X K hsz2 hI hK
      simp only [encW]
      gi_wp2
      exact hK _ _ (KeepsFrom.refl _ _) ⟨id, Nat.le_refl _, fun _ _ => rfl⟩ hI (ex_act _ _ (by rfl))
    case body2 =>
      rintro l2 pre2 y a' X hsz2 _ ⟨hp, hg, hs5, ht, hx7, hx8, hkf, hpt⟩ ⟨z, rfl⟩ hlen2
      obtain ⟨b, hb, hcb, rfl⟩ := selTo_mem.1 (show y ∈ selTo t.canB t.ns from hlen2.subset (List.mem_append_right _ (List.mem_singleton.2 rfl)))
      have HBI := Lib.hid hb
      have HP := Lib.hid hp
      have HG := Lib.hid hg
      have HS5 := Lib.hid hs5
      have HTX := Lib.hid ht
      have HX7 := Lib.hid hx7
      have HX8 := Lib.hid hx8
      have HKF := Lib.hid hkf
      have HPT := Lib.hid hpt
      obtain ⟨T_0, T_1, T_2, T_3, T_4, T_5, T_6, T_7, T_8, T_l⟩ := ht.c9
      obtain ⟨bs, os, Ar, Af2, Ax, cr, cf2, cx, hA, hbs, _, _, p0, _⟩ := (HGS.out _ hg).1.p.spots.get HA.out
      obtain ⟨bs', os', Ar', Af2', Ax', cr', cf2', cx', hA', _, _, _, q0, _⟩ := (HGS.out _ hg).1.p.spots.get HBI.out
      obtain ⟨rfl, rfl⟩ : bs = bs' ∧ os = os' := by rw [hA] at hA'; injection hA' with hA'; injection hA' with h1 h2; exact ⟨h1, h2⟩
      obtain ⟨u, hu⟩ : ∃ u, (t.spot a).at_ = u := ⟨_, rfl⟩
      obtain ⟨v, hv⟩ : ∃ v, (t.spot b).at_ = v := ⟨_, rfl⟩
      rw [hu] at p0
      rw [hv] at q0
      obtain ⟨d, hd⟩ : ∃ d, dst u v = d := ⟨_, rfl⟩
      have hua := And.intro (HOK.out.spot a HA.out).a0 (HOK.out.spot a HA.out).a1
      have hvb := And.intro (HOK.out.spot b HBI.out).a0 (HOK.out.spot b HBI.out).a1
      rw [hu] at hua
      rw [hv] at hvb
      have HDI := Lib.hid (fun w' => hd ▸ distP_any u v w' hua hvb : ∀ w' : World, Calls Tryz.prog 81 #[.int .i64 u, .int .i64 v] w' fun e w'' => e = .returned (.int .i64 d) ∧ Below w'.heap.size w' w'')
      have a1 : (a : Int) < (t.ns : Int) := by have := HA.out; omega
      have b1 : (b : Int) < (t.ns : Int) := by have := HBI.out; omega
      obtain ⟨m, hm⟩ : ∃ m, t.whole a = m := ⟨_, rfl⟩
      obtain ⟨k, hk⟩ : ∃ k, t.whole b = k := ⟨_, rfl⟩
      have hmb := whole_bd HOK.out HA.out
      have hkb := whole_bd HOK.out HBI.out
      have HM := Lib.hid hm
      rw [hm] at hmb hx8
      rw [hk] at hkb
      have hwr : IntKind.i64.wrap (m + k) = m + k := IntWalk.i64_in _ (by omega)
      obtain ⟨x, hxx⟩ : ∃ x, t.pairRow a pre2 (t.pairAll pre) = x := ⟨_, rfl⟩
      rw [hxx] at hp
      have HNX := Lib.hid (show t.pairRow a (pre2 ++ [(b : Int)]) (t.pairAll pre) = t.pairStep a x b by rw [pairRow_snoc, hxx])
      have HXX := Lib.hid hxx
      have o6 := hp.least.cell
      have o6f := hp.least.frozen
      have o6l := hp.least.lt
      have o7 := hx7.cell
      have o7l := hx7.lt
      have o8 := hx8.cell
      have o8l := hx8.lt
      have hcs := pairStep_cases t x a b
      rw [hm, hk, hu, hv, hd] at hcs
      rw [Int.toNat_natCast, hk]
      subst hA
      clear hp hg hs5 ht hx7 hx8 hkf hpt hlen2 hb hcb hA' hu hv hd hua hvb hm hk hxx hmb hkb
      rcases hcs with ⟨g1, hx⟩ | ⟨g1, g2, hx⟩ | ⟨g1, g2, g3, hx⟩ | ⟨g1, g2, g3, g4, hx⟩ | ⟨g1, g2, g3, g4, hx⟩
      · skip
        have HX := Lib.hid hx
        have e1 : decide ((b : Int) > (a : Int)) = false := by simp; omega
        have e1n : decide (a < b) = false := by simp; omega
        clear hx
        gi_wp2
        refine wpIn_region_calm (by kernel_rfl) (by kernel_rfl) ?_
        repeat (first | (refine wpCalm_skip rfl ?_) | (refine wpCalm_step rfl (fun K hK => ?_); go_simp; (first | (refine hK _ ?_; clear hK K) | (apply Exists.intro; refine ⟨fun _ => ?_, hK _ ?_⟩; ((first | (go_at_call 81; with_reducible exact newer_of (HDI.out _)))); clear hK K))))
        refine wpCalm_nil ?_
        intro w4 hb4
        have HB4 := Lib.hid hb4
        clear hb4
        gi_wp2
        exact ⟨keeps_below HB4.out, ⟨fun h => h.grow HB4.out, HB4.out.size, fun j hj => HB4.out.block j (Array.getElem?_eq_some_iff.1 hj).1⟩, by rw [HNX.out, HX.out, ← HXX.out]; exact HP.out.mono HB4.out, HG.out.grow HB4.out, HS5.out.mono HB4.out, HTX.out.mono HB4.out, (HB4.out.block _ HX7.out.lt).trans HX7.out, (HB4.out.block _ HX8.out.lt).trans HX8.out, HKF.out.trans (keeps_below HB4.out), fun j hj => (HB4.out.block j (Array.getElem?_eq_some_iff.1 ((HPT.out j hj).trans hj)).1).trans (HPT.out j hj)⟩
      · skip
        have HX := Lib.hid hx
        have e1 : decide ((b : Int) > (a : Int)) = true := by simp; omega
        have e1n : decide (a < b) = true := by simp; omega
        have e2 : decide (d ≥ t.far) = false := by simp; omega
        have e2n : decide (t.far ≤ d) = false := by simp; omega
        clear hx
        gi_wp2
        refine wpIn_region_calm (by kernel_rfl) (by kernel_rfl) ?_
        repeat (first | (refine wpCalm_skip rfl ?_) | (refine wpCalm_step rfl (fun K hK => ?_); go_simp; (first | (refine hK _ ?_; clear hK K) | (apply Exists.intro; refine ⟨fun _ => ?_, hK _ ?_⟩; ((first | (go_at_call 81; with_reducible exact newer_of (HDI.out _)))); clear hK K))))
        refine wpCalm_nil ?_
        intro w4 hb4
        have HB4 := Lib.hid hb4
        clear hb4
        gi_wp2
        exact ⟨keeps_below HB4.out, ⟨fun h => h.grow HB4.out, HB4.out.size, fun j hj => HB4.out.block j (Array.getElem?_eq_some_iff.1 hj).1⟩, by rw [HNX.out, HX.out, ← HXX.out]; exact HP.out.mono HB4.out, HG.out.grow HB4.out, HS5.out.mono HB4.out, HTX.out.mono HB4.out, (HB4.out.block _ HX7.out.lt).trans HX7.out, (HB4.out.block _ HX8.out.lt).trans HX8.out, HKF.out.trans (keeps_below HB4.out), fun j hj => (HB4.out.block j (Array.getElem?_eq_some_iff.1 ((HPT.out j hj).trans hj)).1).trans (HPT.out j hj)⟩
      · skip
        have HX := Lib.hid hx
        have e1 : decide ((b : Int) > (a : Int)) = true := by simp; omega
        have e1n : decide (a < b) = true := by simp; omega
        have e2 : decide (d ≥ t.far) = true := by simp; omega
        have e2n : decide (t.far ≤ d) = true := by simp; omega
        have e3 : decide (x.least < 0) = true := by simpa using g3
        clear hx
        gi_wp2
        refine wpIn_region_calm (by kernel_rfl) (by kernel_rfl) ?_
        repeat (first | (refine wpCalm_skip rfl ?_) | (refine wpCalm_step rfl (fun K hK => ?_); go_simp; (first | (refine hK _ ?_; clear hK K) | (apply Exists.intro; refine ⟨fun _ => ?_, hK _ ?_⟩; ((first | (go_at_call 81; with_reducible exact newer_of (HDI.out _)))); clear hK K))))
        refine wpCalm_nil ?_
        intro w4 hb4
        have HB4 := Lib.hid hb4
        clear hb4
        gi_wp2
        have hp4 := HP.out.mono HB4.out
        have y7 : Boxed w4 b7 3 (.int .i64 (a : Int)) := (HB4.out.block _ HX7.out.lt).trans HX7.out
        have y8 : Boxed w4 b8 3 (.int .i64 m) := by rw [← HM.out]; exact (HB4.out.block _ HX8.out.lt).trans HX8.out
        have HFA := Lib.hid (fun (L : Nat → Bool) (W : World) (h : St3 w4 (w.heap.size + 1) (w.heap.size + 1 + 1) (w1.heap.size + 1) a b (m + k) L W) => St3.facts hp4 y7 y8 (by omega) (by omega) (by omega) (by omega) (by omega) (by omega) h)
        have HP4 := Lib.hid hp4
        clear y7 y8 hp4 o6 o6f o6l o7 o7l o8 o8l
        refine wpIn_region_lst (openRound _ l2) [.int .i64 (a : Int), .int .i64 (b : Int), .int .i64 m, .int .i64 k, .int .i64 (m + k), undef, undef, undef] (St3 w4 (w.heap.size + 1) (w.heap.size + 1 + 1) (w1.heap.size + 1) a b (m + k)) (by kernel_rfl) (by kernel_rfl) rfl ⟨_, (Below.refl w4.heap.size w4).drew, rfl⟩ ?_
      
        refine wpLst_do rfl (fun L W hC hk hcl => ?_) ?_
        · have c7 := (HFA.out L W hC).1.cell
          have hK := hC.keep 0 (by decide)
          clear hC hcl hk
          go_simp
          try first | exact hK | exact ⟨hK, rfl⟩
        refine wpLst_do rfl (fun L W hC hk hcl => ?_) ?_
        · have hK := hC.keep 1 (by decide)
          clear hC hcl hk
          go_simp
          try first | exact hK | exact ⟨hK, rfl⟩
        refine wpLst_do rfl (fun L W hC hk hcl => ?_) ?_
        · have c8 := (HFA.out L W hC).2.1.cell
          have hK := hC.keep 2 (by decide)
          clear hC hcl hk
          go_simp
          try first | exact hK | exact ⟨hK, rfl⟩
        refine wpLst_do rfl (fun L W hC hk hcl => ?_) ?_
        · have hK := hC.keep 3 (by decide)
          clear hC hcl hk
          go_simp
          try first | exact hK | exact ⟨hK, rfl⟩
        refine wpLst_do rfl (fun L W hC hk hcl => ?_) ?_
        · have hK := hC.keep 4 (by decide)
          clear hC hcl hk
          go_simp
          try first | exact hK | exact ⟨hK, rfl⟩
        refine wpLst_do rfl (fun L W hC hk hcl => ?_) ?_
        · obtain ⟨u2, h2⟩ := (HFA.out L W hC).2.2.1
          have n6 : L 6 = false := (Bool.eq_false_or_eq_true (L 6)).resolve_left fun h => by have := hcl 6 5 h (by kernel_rfl); rw [hk] at this; cases this
          have n7 : L 7 = false := (Bool.eq_false_or_eq_true (L 7)).resolve_left fun h => by have := hcl 7 5 h (by kernel_rfl); rw [hk] at this; cases this
          have hK := hC.five hk n6 n7
          have c2 := h2.cell
          have f2 := h2.frozen
          clear hC hcl hk n6 n7 h2
          go_simp
          try first | exact hK | exact ⟨hK, rfl⟩
        refine wpLst_do rfl (fun L W hC hk hcl => ?_) ?_
        · obtain ⟨u3, h3⟩ := (HFA.out L W hC).2.2.2.1
          have n7 : L 7 = false := (Bool.eq_false_or_eq_true (L 7)).resolve_left fun h => by have := hcl 7 6 h (by kernel_rfl); rw [hk] at this; cases this
          have hK := hC.six hk n7
          have c3 := h3.cell
          have f3 := h3.frozen
          clear hC hcl hk n7 h3
          go_simp
          try first | exact hK | exact ⟨hK, rfl⟩
        refine wpLst_do rfl (fun L W hC hk hcl => ?_) ?_
        · obtain ⟨u6, h6⟩ := (HFA.out L W hC).2.2.2.2
          have hK := hC.seven hk
          have c6 := h6.cell
          have f6 := h6.frozen
          clear hC hcl hk h6
          go_simp
          try first | exact hK | exact ⟨hK, rfl⟩
        refine wpLst_nil ?_
        intro L W hall hC
        obtain ⟨w6, hb6, rfl⟩ := hC.all hall
        clear hall hC
        have hp6 := HP4.out.mono hb6
        have HP6 := Lib.hid hp6
        have HB6 := Lib.hid (bTrans HB4.out hb6)
        simp only [Act.put, List.setIfInBounds_toArray, List.set_cons_succ, List.set_cons_zero]
        clear hb6 hp6
        gi_wp2
        exact ⟨(keeps_below HB6.out).trans (((KeepsOthers.setCell _ _ _).from _).trans (((KeepsOthers.setCell _ _ _).from _).trans ((KeepsOthers.setCell _ _ _).from _))),
          ⟨fun h => (((h.grow HB6.out).set (b := w.heap.size + 1) (by omega) (by omega) _).set (b := w.heap.size + 1 + 1) (by omega) (by omega) _).set (b := w1.heap.size + 1) (by omega) (by omega) _, by simpa [World.setCell] using HB6.out.size, fun j hj => (set3_same HP6.out _ _ _ ((HB6.out.block j (Array.getElem?_eq_some_iff.1 hj).1).trans hj) (by decide)).trans hj.symm⟩,
          by rw [HNX.out, HX.out]; exact HP6.out.put (by omega) (by omega) (by omega) ⟨a, b, m + k⟩,
          (((HG.out.grow HB6.out).set (b := w.heap.size + 1) (by omega) (by omega) _).set (b := w.heap.size + 1 + 1) (by omega) (by omega) _).set (b := w1.heap.size + 1) (by omega) (by omega) _,
          set3_same HP6.out _ _ _ (HS5.out.mono HB6.out) (by decide), set3_same HP6.out _ _ _ (HTX.out.mono HB6.out) (by decide),
          ((((show Boxed w6 b7 3 (.int .i64 (a : Int)) from (HB6.out.block _ HX7.out.lt).trans HX7.out).other (by omega) _).other (by omega) _).other (by omega) _), ((((show Boxed w6 b8 3 (.int .i64 (t.whole a)) from (HB6.out.block _ HX8.out.lt).trans HX8.out).other (by omega) _).other (by omega) _).other (by omega) _),
          HKF.out.trans ((keeps_below HB6.out).trans (((KeepsOthers.setCell _ _ _).from _).trans (((KeepsOthers.setCell _ _ _).from _).trans ((KeepsOthers.setCell _ _ _).from _)))),
          fun j hj => (set3_same HP6.out _ _ _ ((HB6.out.block j (Array.getElem?_eq_some_iff.1 ((HPT.out j hj).trans hj)).1).trans ((HPT.out j hj).trans hj)) (by decide)).trans hj.symm⟩
      · skip
        have HX := Lib.hid hx
        have e1 : decide ((b : Int) > (a : Int)) = true := by simp; omega
        have e1n : decide (a < b) = true := by simp; omega
        have e2 : decide (d ≥ t.far) = true := by simp; omega
        have e2n : decide (t.far ≤ d) = true := by simp; omega
        have e3 : decide (x.least < 0) = false := by simp; omega
        have e4 : decide (m + k < x.least) = true := by simpa using g4
        clear hx
        gi_wp2
        refine wpIn_region_calm (by kernel_rfl) (by kernel_rfl) ?_
        repeat (first | (refine wpCalm_skip rfl ?_) | (refine wpCalm_step rfl (fun K hK => ?_); go_simp; (first | (refine hK _ ?_; clear hK K) | (apply Exists.intro; refine ⟨fun _ => ?_, hK _ ?_⟩; ((first | (go_at_call 81; with_reducible exact newer_of (HDI.out _)))); clear hK K))))
        refine wpCalm_nil ?_
        intro w4 hb4
        have HB4 := Lib.hid hb4
        clear hb4
        gi_wp2
        have hp4 := HP.out.mono HB4.out
        have y7 : Boxed w4 b7 3 (.int .i64 (a : Int)) := (HB4.out.block _ HX7.out.lt).trans HX7.out
        have y8 : Boxed w4 b8 3 (.int .i64 m) := by rw [← HM.out]; exact (HB4.out.block _ HX8.out.lt).trans HX8.out
        have HFA := Lib.hid (fun (L : Nat → Bool) (W : World) (h : St3 w4 (w.heap.size + 1) (w.heap.size + 1 + 1) (w1.heap.size + 1) a b (m + k) L W) => St3.facts hp4 y7 y8 (by omega) (by omega) (by omega) (by omega) (by omega) (by omega) h)
        have HP4 := Lib.hid hp4
        clear y7 y8 hp4 o6 o6f o6l o7 o7l o8 o8l
        refine wpIn_region_lst (openRound _ l2) [.int .i64 (a : Int), .int .i64 (b : Int), .int .i64 m, .int .i64 k, .int .i64 (m + k), undef, undef, undef] (St3 w4 (w.heap.size + 1) (w.heap.size + 1 + 1) (w1.heap.size + 1) a b (m + k)) (by kernel_rfl) (by kernel_rfl) rfl ⟨_, (Below.refl w4.heap.size w4).drew, rfl⟩ ?_
      
        refine wpLst_do rfl (fun L W hC hk hcl => ?_) ?_
        · have c7 := (HFA.out L W hC).1.cell
          have hK := hC.keep 0 (by decide)
          clear hC hcl hk
          go_simp
          try first | exact hK | exact ⟨hK, rfl⟩
        refine wpLst_do rfl (fun L W hC hk hcl => ?_) ?_
        · have hK := hC.keep 1 (by decide)
          clear hC hcl hk
          go_simp
          try first | exact hK | exact ⟨hK, rfl⟩
        refine wpLst_do rfl (fun L W hC hk hcl => ?_) ?_
        · have c8 := (HFA.out L W hC).2.1.cell
          have hK := hC.keep 2 (by decide)
          clear hC hcl hk
          go_simp
          try first | exact hK | exact ⟨hK, rfl⟩
        refine wpLst_do rfl (fun L W hC hk hcl => ?_) ?_
        · have hK := hC.keep 3 (by decide)
          clear hC hcl hk
          go_simp
          try first | exact hK | exact ⟨hK, rfl⟩
        refine wpLst_do rfl (fun L W hC hk hcl => ?_) ?_
        · have hK := hC.keep 4 (by decide)
          clear hC hcl hk
          go_simp
          try first | exact hK | exact ⟨hK, rfl⟩
        refine wpLst_do rfl (fun L W hC hk hcl => ?_) ?_
        · obtain ⟨u2, h2⟩ := (HFA.out L W hC).2.2.1
          have n6 : L 6 = false := (Bool.eq_false_or_eq_true (L 6)).resolve_left fun h => by have := hcl 6 5 h (by kernel_rfl); rw [hk] at this; cases this
          have n7 : L 7 = false := (Bool.eq_false_or_eq_true (L 7)).resolve_left fun h => by have := hcl 7 5 h (by kernel_rfl); rw [hk] at this; cases this
          have hK := hC.five hk n6 n7
          have c2 := h2.cell
          have f2 := h2.frozen
          clear hC hcl hk n6 n7 h2
          go_simp
          try first | exact hK | exact ⟨hK, rfl⟩
        refine wpLst_do rfl (fun L W hC hk hcl => ?_) ?_
        · obtain ⟨u3, h3⟩ := (HFA.out L W hC).2.2.2.1
          have n7 : L 7 = false := (Bool.eq_false_or_eq_true (L 7)).resolve_left fun h => by have := hcl 7 6 h (by kernel_rfl); rw [hk] at this; cases this
          have hK := hC.six hk n7
          have c3 := h3.cell
          have f3 := h3.frozen
          clear hC hcl hk n7 h3
          go_simp
          try first | exact hK | exact ⟨hK, rfl⟩
        refine wpLst_do rfl (fun L W hC hk hcl => ?_) ?_
        · obtain ⟨u6, h6⟩ := (HFA.out L W hC).2.2.2.2
          have hK := hC.seven hk
          have c6 := h6.cell
          have f6 := h6.frozen
          clear hC hcl hk h6
          go_simp
          try first | exact hK | exact ⟨hK, rfl⟩
        refine wpLst_nil ?_
        intro L W hall hC
        obtain ⟨w6, hb6, rfl⟩ := hC.all hall
        clear hall hC
        have hp6 := HP4.out.mono hb6
        have HP6 := Lib.hid hp6
        have HB6 := Lib.hid (bTrans HB4.out hb6)
        simp only [Act.put, List.setIfInBounds_toArray, List.set_cons_succ, List.set_cons_zero]
        clear hb6 hp6
        gi_wp2
        exact ⟨(keeps_below HB6.out).trans (((KeepsOthers.setCell _ _ _).from _).trans (((KeepsOthers.setCell _ _ _).from _).trans ((KeepsOthers.setCell _ _ _).from _))),
          ⟨fun h => (((h.grow HB6.out).set (b := w.heap.size + 1) (by omega) (by omega) _).set (b := w.heap.size + 1 + 1) (by omega) (by omega) _).set (b := w1.heap.size + 1) (by omega) (by omega) _, by simpa [World.setCell] using HB6.out.size, fun j hj => (set3_same HP6.out _ _ _ ((HB6.out.block j (Array.getElem?_eq_some_iff.1 hj).1).trans hj) (by decide)).trans hj.symm⟩,
          by rw [HNX.out, HX.out]; exact HP6.out.put (by omega) (by omega) (by omega) ⟨a, b, m + k⟩,
          (((HG.out.grow HB6.out).set (b := w.heap.size + 1) (by omega) (by omega) _).set (b := w.heap.size + 1 + 1) (by omega) (by omega) _).set (b := w1.heap.size + 1) (by omega) (by omega) _,
          set3_same HP6.out _ _ _ (HS5.out.mono HB6.out) (by decide), set3_same HP6.out _ _ _ (HTX.out.mono HB6.out) (by decide),
          ((((show Boxed w6 b7 3 (.int .i64 (a : Int)) from (HB6.out.block _ HX7.out.lt).trans HX7.out).other (by omega) _).other (by omega) _).other (by omega) _), ((((show Boxed w6 b8 3 (.int .i64 (t.whole a)) from (HB6.out.block _ HX8.out.lt).trans HX8.out).other (by omega) _).other (by omega) _).other (by omega) _),
          HKF.out.trans ((keeps_below HB6.out).trans (((KeepsOthers.setCell _ _ _).from _).trans (((KeepsOthers.setCell _ _ _).from _).trans ((KeepsOthers.setCell _ _ _).from _)))),
          fun j hj => (set3_same HP6.out _ _ _ ((HB6.out.block j (Array.getElem?_eq_some_iff.1 ((HPT.out j hj).trans hj)).1).trans ((HPT.out j hj).trans hj)) (by decide)).trans hj.symm⟩
      · skip
        have HX := Lib.hid hx
        have e1 : decide ((b : Int) > (a : Int)) = true := by simp; omega
        have e1n : decide (a < b) = true := by simp; omega
        have e2 : decide (d ≥ t.far) = true := by simp; omega
        have e2n : decide (t.far ≤ d) = true := by simp; omega
        have e3 : decide (x.least < 0) = false := by simp; omega
        have e4 : decide (m + k < x.least) = false := by simp; omega
        clear hx
        gi_wp2
        refine wpIn_region_calm (by kernel_rfl) (by kernel_rfl) ?_
        repeat (first | (refine wpCalm_skip rfl ?_) | (refine wpCalm_step rfl (fun K hK => ?_); go_simp; (first | (refine hK _ ?_; clear hK K) | (apply Exists.intro; refine ⟨fun _ => ?_, hK _ ?_⟩; ((first | (go_at_call 81; with_reducible exact newer_of (HDI.out _)))); clear hK K))))
        refine wpCalm_nil ?_
        intro w4 hb4
        have HB4 := Lib.hid hb4
        clear hb4
        gi_wp2
        exact ⟨keeps_below HB4.out, ⟨fun h => h.grow HB4.out, HB4.out.size, fun j hj => HB4.out.block j (Array.getElem?_eq_some_iff.1 hj).1⟩, by rw [HNX.out, HX.out, ← HXX.out]; exact HP.out.mono HB4.out, HG.out.grow HB4.out, HS5.out.mono HB4.out, HTX.out.mono HB4.out, (HB4.out.block _ HX7.out.lt).trans HX7.out, (HB4.out.block _ HX8.out.lt).trans HX8.out, HKF.out.trans (keeps_below HB4.out), fun j hj => (HB4.out.block j (Array.getElem?_eq_some_iff.1 ((HPT.out j hj).trans hj)).1).trans (HPT.out j hj)⟩
    case done2 =>
      rintro xs X hxs ⟨hp, hg, hs5, ht, _, _, hkf, hpt⟩
      subst hxs
      rw [← pairAll_snoc] at hp
      gi_wp2
      exact ⟨⟨hkf.size, fun k o h1 h2 h3 => hkf.same k o (by simpa using h1) h2 h3⟩, ⟨fun _ => hg, hkf.size, hpt⟩, hp, hg, hs5, ht⟩
    case stop2 =>
      rintro c pre2 X _ h
      exact h.elim
  case done =>
    rintro D xs W hD rfl ⟨hp, hg, _, _⟩ hK
    have HP := Lib.hid hp
    have HG := Lib.hid hg
    obtain ⟨x, hxx⟩ : ∃ x, t.pairAll t.cans = x := ⟨_, rfl⟩
    rw [hxx] at HPO HP
    have o2 := HP.out.one.cell
    have o2f := HP.out.one.frozen
    have o2l := HP.out.one.lt
    have o3 := HP.out.other.cell
    have o3f := HP.out.other.frozen
    have o3l := HP.out.other.lt
    have o6 := HP.out.least.cell
    have o6l := HP.out.least.lt
    simp only [World.size_alloc] at hD
    have hGl := hg.2.2
    clear hp hg hxx
    have HBW := Lib.hid (show ∀ p q : Int, Below w.heap.size w ((W.setCell ⟨w.heap.size + 1, 0, none⟩ (.int .i64 p)).setCell ⟨w.heap.size + 1 + 1, 0, none⟩ (.int .i64 q)) from fun p q => Below.setCell (p := ⟨w.heap.size + 1 + 1, 0, none⟩) (Below.setCell (p := ⟨w.heap.size + 1, 0, none⟩) HG.out.1 (by simp <;> omega) _) (by simp <;> omega) _)
    have leave : ∀ (p q e : Int) (tmps : Array Value) (Y : World), Y.heap = ((W.setCell ⟨w.heap.size + 1, 0, none⟩ (.int .i64 p)).setCell ⟨w.heap.size + 1 + 1, 0, none⟩ (.int .i64 q)).heap → Below w.heap.size w Y → tmps[2]?.getD undef = .pointer (some ⟨w.heap.size + 1, 0, none⟩) → tmps[3]?.getD undef = .pointer (some ⟨w.heap.size + 1 + 1, 0, none⟩) → tmps[4]?.getD undef = .int .i64 e → t.pairOut = (p, q, e) → LeavesInM Fence.wide 7 Tryz.prog Tryz.f32 tmps (fun e w' => e = .returned (.tuple #[.int .i64 t.pairOut.1, .int .i64 t.pairOut.2.1, .int .i64 t.pairOut.2.2]) ∧ Below w.heap.size w w') [{ target := .collected D, args := #[] }] .returning Y := by
      intro p q e tmps Y hY hbY h2 h3 h4 hpo
      have hb1 : Boxed Y (w.heap.size + 1) 3 (.int .i64 p) := (congrArg (fun h => h[w.heap.size + 1]?) hY).trans ((HP.out.one.set (.int .i64 p)).other (B' := w.heap.size + 1 + 1) (by omega) (.int .i64 q))
      have hb2 : Boxed Y (w.heap.size + 1 + 1) 3 (.int .i64 q) := (congrArg (fun h => h[w.heap.size + 1 + 1]?) hY).trans ((HP.out.other.other (B' := w.heap.size + 1) (by omega) (.int .i64 p)).set (.int .i64 q))
      have hK2 : Y.heap[D]? = _ := (congrArg (fun h => h[D]?) hY).trans ((KeepsOthers.setCell (W.setCell ⟨w.heap.size + 1, 0, none⟩ (.int .i64 p)) ⟨w.heap.size + 1 + 1, 0, none⟩ (.int .i64 q)).same D _ ((KeepsOthers.setCell W ⟨w.heap.size + 1, 0, none⟩ (.int .i64 p)).same D _ hK rfl) rfl)
      have c2 := cell_kept hb1.cell (grownBy_putObj' _ D (.deferred none)) (fun r e => by cases e; exact ⟨_, hK2, rfl⟩)
      have c3 := cell_kept hb2.cell (grownBy_putObj' _ D (.deferred none)) (fun r e => by cases e; exact ⟨_, hK2, rfl⟩)
      have hsY : W.heap.size ≤ Y.heap.size := by rw [hY]; simp [World.setCell]
      refine ⟨(fun e => nomatch e), .inl ⟨_, _, rfl, run_takeDeferred hK2, ?_⟩⟩
      refine ⟨.tuple #[.int .i64 p, .int .i64 q, .int .i64 e], by simp [results, Tryz.results32, go_sem, h2, h3, h4, c2, c3], by rw [hpo], ?_⟩
      exact below_put hbY (by omega) (by omega) _
    have HLV := Lib.hid leave
    clear leave hK
    by_cases hl : x.least < 0
    · have hl2 : decide (x.least < 0) = true := by simpa using hl
      have HPO2 := Lib.hid (show t.pairOut = (0, 0, 3) by rw [HPO.out, if_pos hl])
      gi_wp2
      exact HLV.out 0 0 3 _ _ rfl (HBW.out 0 0) (by rfl) (by rfl) (by rfl) HPO2.out
    · have hl2 : decide (x.least < 0) = false := by simpa using hl
      have HPO2 := Lib.hid (show t.pairOut = (x.one, x.other, 0) by rw [HPO.out, if_neg hl])
      gi_wp2
      gi_region
      gi_wp2
      exact HLV.out x.one x.other 0 _ _ rfl (HBW.out _ _).drew (by rfl) (by rfl) (by rfl) HPO2.out
  case stop =>
    rintro D c pre W _ _ h _
    exact h.elim
end Go.Proofs.YthnojgdckkdcgaaGreatDoor

namespace Go.Proofs.YthnojgdckkdcgaaGreatDoor
open Go.RowKit Go.Sort
theorem ints1 {w : World} {b : Nat} {g : Nat → Int} (hl : b < w.heap.size) (h0 : w.cell? ⟨b, 0, none⟩ = some (.int .i64 (g 0))) : IntsAt w (some ⟨b, 0, none⟩) 1 g :=
  .inr ⟨b, 0, rfl, hl, fun i hi => by
    obtain rfl : i = 0 := by omega
    exact h0⟩
set_option maxHeartbeats 8000000 in
set_option maxRecDepth 100000 in
theorem works9_any (w : World) (hB : TabAt w) (hN : NoneAt w) : Calls Tryz.prog 24 #[] w fun e w' => e = .returned (.bool true) ∧ Below w.heap.size w w' := by
  have HD0 := Lib.hid (Below.refl w.heap.size w)
  have HTB0 := Lib.hid hB
  have HNA0 := Lib.hid hN
  clear hB hN
  go_enter Tryz.func24, Tryz.ntmps24
  go_wp2_with fail
  refine (example9_any _).mono ?_
  rintro e w1 ⟨⟨Aw, Ao, Ap, As, rfl, hP⟩, hb⟩
  have hB1 : Below w.heap.size w w1 := bTrans (Below.refl _ _) hb
  have HD1 := Lib.hid (bTrans HD0.out hB1)
  have HTB1 := Lib.hid (HTB0.out.mono hB1)
  have HNA1 := Lib.hid (HNA0.out.mono hB1)
  have HT1 := Lib.hid (hP)
  clear hb hB1 HD0 HTB0 HNA0
  clear hP
  go_wp2_with fail
  refine ((by have := nearP_any Aw none Ao Ap As 2 0 2 2 3 exP 1 (w1.alloc (.cells #[.int .i64 2, .slice Aw 2 2, .slice none 0 0, .slice Ao 2 2, .slice Ap 2 2, .slice As 3 3, .int .i64 8, .int .i64 6, .int .i64 3] 62)) exP_small (HT1.out.mono (bAlloc (Below.refl _ _) (.cells #[.int .i64 2, .slice Aw 2 2, .slice none 0 0, .slice Ao 2 2, .slice Ap 2 2, .slice As 3 3, .int .i64 8, .int .i64 6, .int .i64 3] 62))) (HTB1.out.mono (bAlloc (Below.refl _ _) (.cells #[.int .i64 2, .slice Aw 2 2, .slice none 0 0, .slice Ao 2 2, .slice Ap 2 2, .slice As 3 3, .int .i64 8, .int .i64 6, .int .i64 3] 62))); rw [exP_near] at this; exact this : Calls Tryz.prog 26 #[.agg #[.int .i64 2, .slice Aw 2 2, .slice none 0 0, .slice Ao 2 2, .slice Ap 2 2, .slice As 3 3, .int .i64 8, .int .i64 6, .int .i64 3], .int .i64 1] (w1.alloc (.cells #[.int .i64 2, .slice Aw 2 2, .slice none 0 0, .slice Ao 2 2, .slice Ap 2 2, .slice As 3 3, .int .i64 8, .int .i64 6, .int .i64 3] 62)) fun e w' => e = .returned (.tuple #[.int .i64 20, .int .i64 0]) ∧ Below (w1.alloc (.cells #[.int .i64 2, .slice Aw 2 2, .slice none 0 0, .slice Ao 2 2, .slice Ap 2 2, .slice As 3 3, .int .i64 8, .int .i64 6, .int .i64 3] 62)).heap.size (w1.alloc (.cells #[.int .i64 2, .slice Aw 2 2, .slice none 0 0, .slice Ao 2 2, .slice Ap 2 2, .slice As 3 3, .int .i64 8, .int .i64 6, .int .i64 3] 62)) w')).mono ?_
  rintro e w2 ⟨rfl, hb⟩
  have hB2 : Below w1.heap.size w1 w2 := bTrans (bAlloc (Below.refl _ _) (.cells #[.int .i64 2, .slice Aw 2 2, .slice none 0 0, .slice Ao 2 2, .slice Ap 2 2, .slice As 3 3, .int .i64 8, .int .i64 6, .int .i64 3] 62)) hb
  have HD2 := Lib.hid (bTrans HD1.out hB2)
  have HTB2 := Lib.hid (HTB1.out.mono hB2)
  have HNA2 := Lib.hid (HNA1.out.mono hB2)
  have HT2 := Lib.hid (HT1.out.mono hB2)
  have T2 := Lib.hid (show TBox w2 w1.heap.size 62 #[.int .i64 2, .slice Aw 2 2, .slice none 0 0, .slice Ao 2 2, .slice Ap 2 2, .slice As 3 3, .int .i64 8, .int .i64 6, .int .i64 3] from by have := ((TBox.new w1 #[.int .i64 2, .slice Aw 2 2, .slice none 0 0, .slice Ao 2 2, .slice Ap 2 2, .slice As 3 3, .int .i64 8, .int .i64 6, .int .i64 3] 62).mono (Below.refl _ _)).mono hb; simpa using this)
  clear hb hB2 HD1 HTB1 HNA1 HT1
  obtain ⟨T_0, T_1, T_2, T_3, T_4, T_5, T_6, T_7, T_8, T_l⟩ := T2.out.c9
  go_wp2_with fail
  refine ((by have := pricesP_any Aw none Ao Ap As 2 0 2 2 3 exP 2 w2 exP_small HT2.out HTB2.out HNA2.out; rw [exP_price] at this; exact this : Calls Tryz.prog 39 #[.agg #[.int .i64 2, .slice Aw 2 2, .slice none 0 0, .slice Ao 2 2, .slice Ap 2 2, .slice As 3 3, .int .i64 8, .int .i64 6, .int .i64 3], .int .i64 2] w2 fun e w' => e = .returned (.tuple #[.int .i64 34, .int .i64 0]) ∧ Below w2.heap.size w2 w')).mono ?_
  rintro e w3 ⟨rfl, hb⟩
  have hB3 : Below w2.heap.size w2 w3 := bTrans (Below.refl _ _) hb
  have HD3 := Lib.hid (bTrans HD2.out hB3)
  have HTB3 := Lib.hid (HTB2.out.mono hB3)
  have HNA3 := Lib.hid (HNA2.out.mono hB3)
  have HT3 := Lib.hid (HT2.out.mono hB3)
  have T3 := Lib.hid (T2.out.mono hB3)
  clear hb hB3 HD2 HTB2 HNA2 HT2 T2 T_0 T_1 T_2 T_3 T_4 T_5 T_6 T_7 T_8 T_l
  obtain ⟨T_0, T_1, T_2, T_3, T_4, T_5, T_6, T_7, T_8, T_l⟩ := T3.out.c9
  go_wp2_with fail
  refine ((by have := forbidsOutP_any Aw none Ao Ap As 2 0 2 2 3 exP 1 1 w3 exP_small HT3.out HTB3.out; rw [exP_forbids] at this; exact this : Calls Tryz.prog 49 #[.agg #[.int .i64 2, .slice Aw 2 2, .slice none 0 0, .slice Ao 2 2, .slice Ap 2 2, .slice As 3 3, .int .i64 8, .int .i64 6, .int .i64 3], .int .i64 1, .int .i64 1] w3 fun e w' => e = .returned (.tuple #[.int .i64 3, .int .i64 0]) ∧ Below w3.heap.size w3 w')).mono ?_
  rintro e w4 ⟨rfl, hb⟩
  have hB4 : Below w3.heap.size w3 w4 := bTrans (Below.refl _ _) hb
  have HD4 := Lib.hid (bTrans HD3.out hB4)
  have HTB4 := Lib.hid (HTB3.out.mono hB4)
  have HNA4 := Lib.hid (HNA3.out.mono hB4)
  have HT4 := Lib.hid (HT3.out.mono hB4)
  have T4 := Lib.hid (T3.out.mono hB4)
  clear hb hB4 HD3 HTB3 HNA3 HT3 T3 T_0 T_1 T_2 T_3 T_4 T_5 T_6 T_7 T_8 T_l
  obtain ⟨T_0, T_1, T_2, T_3, T_4, T_5, T_6, T_7, T_8, T_l⟩ := T4.out.c9
  go_wp2_with fail
  refine ((by have := whoOutP_any Aw none Ao Ap As 2 0 2 2 3 exP 1 w4 exP_small HT4.out HTB4.out; rw [exP_has.1, exP_know, show exP.who (1 : Int).toNat = [1] from exP_who] at this; exact this : Calls Tryz.prog 27 #[.agg #[.int .i64 2, .slice Aw 2 2, .slice none 0 0, .slice Ao 2 2, .slice Ap 2 2, .slice As 3 3, .int .i64 8, .int .i64 6, .int .i64 3], .int .i64 1] w4 fun e w' => NumsOut w' w4.heap.size 0 [1] e ∧ Below w4.heap.size w4 w')).mono ?_
  rintro e w5 ⟨ho, hb⟩
  obtain ⟨v, rfl, hv⟩ := ho.1 rfl
  obtain ⟨A6, c6, rfl, hi6⟩ := hv.lst
  have hB5 : Below w4.heap.size w4 w5 := bTrans (Below.refl _ _) hb
  have HD5 := Lib.hid (bTrans HD4.out hB5)
  have HTB5 := Lib.hid (HTB4.out.mono hB5)
  have HNA5 := Lib.hid (HNA4.out.mono hB5)
  have HT5 := Lib.hid (HT4.out.mono hB5)
  have HI5 := Lib.hid ((show IntsAt _ A6 1 (intL0 [1]) from hi6))
  have T5 := Lib.hid (T4.out.mono hB5)
  clear hb hB5 HD4 HTB4 HNA4 HT4 T4 T_0 T_1 T_2 T_3 T_4 T_5 T_6 T_7 T_8 T_l
  obtain ⟨T_0, T_1, T_2, T_3, T_4, T_5, T_6, T_7, T_8, T_l⟩ := T5.out.c9
  clear ho hv hi6
  go_wp2_with fail
  refine ((by have := bestP_any Aw none Ao Ap As 2 0 2 2 3 exP w5 exP_small HT5.out HTB5.out HNA5.out; rw [exP_bestOut] at this; exact this : Calls Tryz.prog 30 #[.agg #[.int .i64 2, .slice Aw 2 2, .slice none 0 0, .slice Ao 2 2, .slice Ap 2 2, .slice As 3 3, .int .i64 8, .int .i64 6, .int .i64 3]] w5 fun e w' => e = .returned (.tuple #[.int .i64 2, .int .i64 0]) ∧ Below w5.heap.size w5 w')).mono ?_
  rintro e w6 ⟨rfl, hb⟩
  have hB6 : Below w5.heap.size w5 w6 := bTrans (Below.refl _ _) hb
  have HD6 := Lib.hid (bTrans HD5.out hB6)
  have HTB6 := Lib.hid (HTB5.out.mono hB6)
  have HNA6 := Lib.hid (HNA5.out.mono hB6)
  have HT6 := Lib.hid (HT5.out.mono hB6)
  have HI6 := Lib.hid (HI5.out.mono hB6)
  have T6 := Lib.hid (T5.out.mono hB6)
  clear hb hB6 HD5 HTB5 HNA5 HT5 HI5 T5 T_0 T_1 T_2 T_3 T_4 T_5 T_6 T_7 T_8 T_l
  obtain ⟨T_0, T_1, T_2, T_3, T_4, T_5, T_6, T_7, T_8, T_l⟩ := T6.out.c9
  go_wp2_with fail
  refine ((by have := loosenP_any Aw none Ao Ap As 2 0 2 2 3 exP w6 exP_small HT6.out HTB6.out HNA6.out; rw [exP_loosenOut] at this; exact this : Calls Tryz.prog 77 #[.agg #[.int .i64 2, .slice Aw 2 2, .slice none 0 0, .slice Ao 2 2, .slice Ap 2 2, .slice As 3 3, .int .i64 8, .int .i64 6, .int .i64 3]] w6 fun e w' => e = .returned (.tuple #[.int .i64 6, .int .i64 0]) ∧ Below w6.heap.size w6 w')).mono ?_
  rintro e w7 ⟨rfl, hb⟩
  have hB7 : Below w6.heap.size w6 w7 := bTrans (Below.refl _ _) hb
  have HD7 := Lib.hid (bTrans HD6.out hB7)
  have HTB7 := Lib.hid (HTB6.out.mono hB7)
  have HNA7 := Lib.hid (HNA6.out.mono hB7)
  have HT7 := Lib.hid (HT6.out.mono hB7)
  have HI7 := Lib.hid (HI6.out.mono hB7)
  have T7 := Lib.hid (T6.out.mono hB7)
  clear hb hB7 HD6 HTB6 HNA6 HT6 HI6 T6 T_0 T_1 T_2 T_3 T_4 T_5 T_6 T_7 T_8 T_l
  obtain ⟨T_0, T_1, T_2, T_3, T_4, T_5, T_6, T_7, T_8, T_l⟩ := T7.out.c9
  go_wp2_with fail
  refine ((by have := pairP_any Aw none Ao Ap As 2 0 2 2 3 exP w7 exP_small HT7.out HTB7.out HNA7.out; rw [exP_pair] at this; exact this : Calls Tryz.prog 32 #[.agg #[.int .i64 2, .slice Aw 2 2, .slice none 0 0, .slice Ao 2 2, .slice Ap 2 2, .slice As 3 3, .int .i64 8, .int .i64 6, .int .i64 3]] w7 fun e w' => e = .returned (.tuple #[.int .i64 0, .int .i64 1, .int .i64 0]) ∧ Below w7.heap.size w7 w')).mono ?_
  rintro e w8 ⟨rfl, hb⟩
  have hB8 : Below w7.heap.size w7 w8 := bTrans (Below.refl _ _) hb
  have HD8 := Lib.hid (bTrans HD7.out hB8)
  have HTB8 := Lib.hid (HTB7.out.mono hB8)
  have HNA8 := Lib.hid (HNA7.out.mono hB8)
  have HT8 := Lib.hid (HT7.out.mono hB8)
  have HI8 := Lib.hid (HI7.out.mono hB8)
  have T8 := Lib.hid (T7.out.mono hB8)
  clear hb hB8 HD7 HTB7 HNA7 HT7 HI7 T7 T_0 T_1 T_2 T_3 T_4 T_5 T_6 T_7 T_8 T_l
  obtain ⟨T_0, T_1, T_2, T_3, T_4, T_5, T_6, T_7, T_8, T_l⟩ := T8.out.c9
  go_wp2_with fail
  refine (sameInts_same A6 (some ⟨w8.heap.size, 0, none⟩) 1 c6 1 (intL0 [1]) (w8.alloc (.cells #[.int .i64 1] 3)) (by decide) (HI8.out.mono (bAlloc (Below.refl _ _) (.cells #[.int .i64 1] 3))) (ints1 (by simp) (by simp [go_sem, intL0]))).mono ?_
  rintro e w9 ⟨rfl, hb⟩
  have hB9 : Below w8.heap.size w8 w9 := bTrans (bAlloc (Below.refl _ _) (.cells #[.int .i64 1] 3)) hb
  have HD9 := Lib.hid (bTrans HD8.out hB9)
  have HTB9 := Lib.hid (HTB8.out.mono hB9)
  have HNA9 := Lib.hid (HNA8.out.mono hB9)
  have HT9 := Lib.hid (HT8.out.mono hB9)
  have HI9 := Lib.hid (HI8.out.mono hB9)
  have T9 := Lib.hid (T8.out.mono hB9)
  have S9 := Lib.hid (show TBox w9 w8.heap.size 3 #[.int .i64 1] from by have := ((TBox.new w8 #[.int .i64 1] 3).mono (Below.refl _ _)).mono hb; simpa using this)
  clear hb hB9 HD8 HTB8 HNA8 HT8 HI8 T8 T_0 T_1 T_2 T_3 T_4 T_5 T_6 T_7 T_8 T_l
  obtain ⟨T_0, T_1, T_2, T_3, T_4, T_5, T_6, T_7, T_8, T_l⟩ := T9.out.c9
  obtain ⟨S_0, S_l⟩ := S9.out.c1
  go_wp2_with fail
  go_ret
  exact ⟨rfl, HD9.out⟩
end Go.Proofs.YthnojgdckkdcgaaGreatDoor

