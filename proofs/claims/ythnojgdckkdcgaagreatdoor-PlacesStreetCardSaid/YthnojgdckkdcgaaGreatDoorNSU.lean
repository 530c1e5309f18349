/- Parts joined: what all claims of this seat need. -/
import Derived.Test.YthnojgdckkdcgaaGreatDoorNSJ
import Derived.Test.YthnojgdckkdcgaaGreatDoorNSI
import Derived.Test.YthnojgdckkdcgaaGreatDoorNST
set_option linter.unusedSimpArgs false
set_option linter.unusedVariables false
namespace Go.Proofs.YthnojgdckkdcgaaGreatDoor
open Go.RowKit Go.Sort
/-- all blocks of some types are kept, where p says so -/
def KeptP (p : Nat → Prop) (l : List TypeId) (w w' : World) : Prop := w.heap.size ≤ w'.heap.size ∧ ∀ (b : Nat) (cs : Array Value) (t : TypeId) (fr : Nat × Nat), w.heap[b]? = some (Obj.cells cs t fr) → t ∈ l → p b → w'.heap[b]? = w.heap[b]?
theorem KeptP.refl {p : Nat → Prop} {l : List TypeId} (w : World) : KeptP p l w w := ⟨Nat.le_refl _, fun _ _ _ _ _ _ _ => rfl⟩
theorem KeptP.after {p : Nat → Prop} {l : List TypeId} {w w1 w2 : World} (h : Kept l w w1) (k : KeptP p l w1 w2) : KeptP p l w w2 :=
  ⟨Nat.le_trans h.1 k.1, fun b cs t fr hb ht hp => by
    have h1 := h.2 b cs t fr hb ht
    exact (k.2 b cs t fr (h1.trans hb) ht hp).trans h1⟩
theorem KeptP.trans {p : Nat → Prop} {l : List TypeId} {w w1 w2 : World} (h : KeptP p l w w1) (k : KeptP p l w1 w2) : KeptP p l w w2 :=
  ⟨Nat.le_trans h.1 k.1, fun b cs t fr hb ht hp => by
    have h1 := h.2 b cs t fr hb ht hp
    exact (k.2 b cs t fr (h1.trans hb) ht hp).trans h1⟩
theorem KeptP.sub {p p' : Nat → Prop} {l l' : List TypeId} {w w' : World} (h : KeptP p l w w') (hp : ∀ b, p' b → p b) (hl : ∀ t, t ∈ l' → t ∈ l) : KeptP p' l' w w' := ⟨h.1, fun b cs t fr hb ht hq => h.2 b cs t fr hb (hl t ht) (hp b hq)⟩
theorem Kept.sub {l l' : List TypeId} {w w' : World} (h : Kept l w w') (hl : ∀ t, t ∈ l' → t ∈ l) : Kept l' w w' := ⟨h.1, fun b cs t fr hb ht => h.2 b cs t fr hb (hl t ht)⟩
/-- X holds, whatever becomes of the other blocks -/
def Clo (p : Nat → Prop) (l : List TypeId) (X : World → Prop) (w : World) : Prop := ∀ w', KeptP p l w w' → X w'
theorem Clo.out {p : Nat → Prop} {l : List TypeId} {X : World → Prop} {w : World} (h : Clo p l X w) : X w := h w (KeptP.refl w)
theorem Clo.kept {p : Nat → Prop} {l : List TypeId} {X : World → Prop} {w w1 : World} (h : Clo p l X w) (hk : Kept l w w1) : Clo p l X w1 := fun w2 k => h w2 (k.after hk)
theorem Clo.mono {p : Nat → Prop} {l : List TypeId} {X : World → Prop} {w w1 : World} (h : Clo p l X w) (hb : Below w.heap.size w w1) : Clo p l X w1 := h.kept (Kept.of_below hb)
theorem Clo.set {p : Nat → Prop} {l : List TypeId} {X : World → Prop} {w : World} (h : Clo p l X w) {g : Nat} (hg : ¬ p g) (o : Nat) (u : Value) : Clo p l X (w.setCell ⟨g, o, none⟩ u) := fun w2 k => h w2
  (KeptP.trans ⟨by simp, fun b cs t fr hb ht hp => Below.heap_setCell w ⟨g, o, none⟩ u b fun e => by
    subst e
    exact hg hp⟩ k)
theorem Clo.fresh {p : Nat → Prop} {l : List TypeId} {X : World → Prop} {w w1 : World} (hX : ∀ w w', Kept l w w' → X w → X w') (h : X w) (hp : ∀ b, b < w.heap.size → p b) (hb : Below w.heap.size w w1) : Clo p l X w1 := fun w2 k => by
  refine hX w w2 ⟨Nat.le_trans hb.size k.1, fun b cs t fr hbb ht => ?_⟩ h
  have hlt := (Array.getElem?_eq_some_iff.1 hbb).1
  have h1 := hb.block b hlt
  exact (k.2 b cs t fr (h1.trans hbb) ht (hp b hlt)).trans h1
theorem Clo.weak {p p' : Nat → Prop} {l l' : List TypeId} {X : World → Prop} {w : World} (h : Clo p l X w) (hp : ∀ b, p b → p' b) (hl : ∀ t, t ∈ l → t ∈ l') : Clo p' l' X w := fun w2 k => h w2 (k.sub hp hl)
theorem Clo.imp {p : Nat → Prop} {l : List TypeId} {X Y : World → Prop} {w : World} (h : Clo p l X w) (hXY : ∀ z, X z → Y z) : Clo p l Y w := fun w2 k => hXY _ (h w2 k)
theorem Clo.both {p : Nat → Prop} {l : List TypeId} {X Y Z : World → Prop} {w : World} (h : Clo p l X w) (k : Clo p l Y w) (hZ : ∀ z, X z → Y z → Z z) : Clo p l Z w := fun w2 h2 => hZ _ (h w2 h2) (k w2 h2)
theorem Clo.const {p : Nat → Prop} {l : List TypeId} {X : World → Prop} {w : World} (h : ∀ z, X z) : Clo p l X w := fun w2 _ => h w2
theorem Clo.setTy {p : Nat → Prop} {l : List TypeId} {X : World → Prop} {w : World} (h : Clo p l X w) {b : Nat} {t : TypeId} (hb : ∃ cs, TBox w b t cs) (ht : t ∉ l) (o : Nat) (u : Value) : Clo p l X (w.setCell ⟨b, o, none⟩ u) := by
  obtain ⟨cs, hb⟩ := hb
  exact h.kept (Kept.set hb ht o u)
theorem owns_clo {w : World} {base N : Nat} {e : TypeId} {size n : Nat} {v : Value} {xs : List Value} (h : w.ownsRow base e size v n xs) (hN : N ≤ base) : Clo (N ≤ ·) [e] (fun z => z.ownsRow base e size v n xs) w := fun w2 k => by
  obtain ⟨h1, h2⟩ := h
  refine ⟨h1, h2.imp id ?_⟩
  rintro ⟨g, cap, cur, h3, h4, h5, h6⟩
  exact ⟨g, cap, cur, h3, h4, (k.2 g _ e _ h5 (by simp) (show N ≤ g by omega)).trans h5, h6⟩
theorem AtHand.rowC {B N : Nat} {e : TypeId} {size n : Nat} {xs : List Value} {w : World} {v : Value} (h : AtHand B e size n xs w v) (hN : N ≤ B) : ∃ A c, v = .slice A n c ∧ Clo (N ≤ ·) [e] (fun z => RowK z A e xs) w := by
  rcases h with ⟨rfl, rfl, g, rfl⟩ | ⟨_, h⟩
  · exact ⟨_, 0, rfl, fun _ _ => .inl rfl⟩
  · obtain ⟨A, c, rfl, _⟩ := RowK.own h
    refine ⟨A, c, rfl, (owns_clo h hN).imp fun z hz => ?_⟩
    obtain ⟨A', c', e1, h2⟩ := RowK.own hz
    injection e1 with e1 _ e2
    subst e1 e2
    exact h2
/-- the rows of the first k wells of a world, whatever becomes of what was there before N -/
def WdRowsU (N : Nat) (w : World) (x : Wd) (k : Nat) (vs : List Value) : Prop := Clo (N ≤ ·) [3] (fun z => WdRows z x k vs) w
theorem WdRowsU.nil {N : Nat} {w : World} {x : Wd} : WdRowsU N w x 0 [] := Clo.const fun _ => ⟨rfl, fun j u h => by simp at h⟩
theorem WdRowsU.kept {N : Nat} {l : List TypeId} {w w' : World} {x : Wd} {k : Nat} {vs : List Value} (h : WdRowsU N w x k vs) (hk : Kept l w w') (ht : 3 ∈ l) : WdRowsU N w' x k vs := Clo.kept h (hk.sub fun t h => by obtain rfl : t = 3 := (by simpa using h); exact ht)
theorem WdRowsU.snoc {N : Nat} {w : World} {x : Wd} {k : Nat} {vs : List Value} {A : Option Addr} {c : Nat} (h : WdRowsU N w x k vs) (h2 : Clo (N ≤ ·) [3] (fun z => RowK z A 3 (intL (x.fall k) (x.len k))) w) (h3 : x.len k ≤ 9223372036854775807) : WdRowsU N w x (k + 1) (vs ++ [.slice A (x.len k) c]) := Clo.both h h2 fun _ a b => a.snoc b h3
def rowInU (N m : Nat) (xs : List Value) (w : World) (v : Value) : Prop := ∀ b, v = .slice (some ⟨b, 0, none⟩) 1 1 → ∃ A c, w.cell? ⟨b, 0, none⟩ = some (.slice A m c) ∧ Clo (N ≤ ·) [3] (fun z => RowK z A 3 xs) w
theorem rowInU_mono {N m : Nat} {xs : List Value} {w w' : World} {v : Value} (hb : Below w.heap.size w w') (h : rowInU N m xs w v) : rowInU N m xs w' v := fun b e => by
  obtain ⟨A, c, h1, h2⟩ := h b e
  exact ⟨A, c, (hb.cell (World.block_lt_of_cell? w _ h1)).trans h1, h2.mono hb⟩
end Go.Proofs.YthnojgdckkdcgaaGreatDoor

namespace Go.Proofs.YthnojgdckkdcgaaGreatDoor
open Go.RowKit Go.Sort
def SpotOwnU (w : World) (base : Nat) (y : Spot) (e : Ending) : Prop :=
  ∃ gr gf cr cf V vs, e = .returned (.agg #[.int .i64 y.at_, .slice (some ⟨gr, 0, none⟩) y.sh.nr cr, .slice (some ⟨gf, 0, none⟩) y.sh.nf cf, .int .i64 y.sh.deep, .int .i64 y.sh.haul, .int .i64 y.sh.rest, V]) ∧ w.ownsRow base 190 4 (.slice (some ⟨gr, 0, none⟩) y.sh.nr cr) y.sh.nr (rockL y.sh.rock y.sh.nr) ∧ w.ownsRow base 3 1 (.slice (some ⟨gf, 0, none⟩) y.sh.nf cf) y.sh.nf (intL y.sh.foot y.sh.nf) ∧ w.ownsRow base 34 1 V y.fl.n vs ∧ WdRowsU base w y.fl y.fl.n vs
set_option maxHeartbeats 4000000 in
set_option maxRecDepth 100000 in
theorem copySpotU_any (Ar Af Ax : Option Addr) (cr cf cx : Nat) (y : Spot) (w : World) (hf : y.Fits) (hS : ShAt w Ar Af y.sh) (hX : RowsAt w Ax y.fl) :
    Calls Tryz.prog 78 #[.agg #[.int .i64 y.at_, .slice Ar y.sh.nr cr, .slice Af y.sh.nf cf, .int .i64 y.sh.deep, .int .i64 y.sh.haul, .int .i64 y.sh.rest, .slice Ax y.fl.n cx]] w fun e w' => SpotOwnU w' w.heap.size y e ∧ Below w.heap.size w w' := by
  have hb2 := bAlloc (bAlloc (Below.refl w.heap.size w) (.cells #[.int .i64 y.at_, .slice Ar y.sh.nr cr, .slice Af y.sh.nf cf, .int .i64 y.sh.deep, .int .i64 y.sh.haul, .int .i64 y.sh.rest, .slice Ax y.fl.n cx] 71)) (.cells #[.int .i64 0, .slice none 0 0, .slice none 0 0, .int .i64 0, .int .i64 0, .int .i64 0, .slice none 0 0] 71)
  have HS := Lib.hid (hS.mono hb2)
  have HX := Lib.hid (hX.mono hb2)
  have HB := Lib.hid hb2
  have HF := Lib.hid hf
  have hn63 : y.fl.n ≤ 9223372036854775807 := by have := hf.fl.1; omega
  have HTR := Lib.hid (TBox.new (w.alloc (.cells #[.int .i64 y.at_, .slice Ar y.sh.nr cr, .slice Af y.sh.nf cf, .int .i64 y.sh.deep, .int .i64 y.sh.haul, .int .i64 y.sh.rest, .slice Ax y.fl.n cx] 71)) #[.int .i64 0, .slice none 0 0, .slice none 0 0, .int .i64 0, .int .i64 0, .int .i64 0, .slice none 0 0] 71)
  clear hX hS hb2 hf
  go_enter Tryz.func78, Tryz.ntmps78
  go_wp2_with fail
  refine wp_region_stir 7 [.const (.pointer (some ⟨w.heap.size, 0, none⟩)), .const (.int .i64 y.at_), .const (.pointer (some ⟨w.heap.size, 1, none⟩)), .const (.agg #[.slice Ar y.sh.nr cr, .slice Af y.sh.nf cf, .int .i64 y.sh.deep, .int .i64 y.sh.haul, .int .i64 y.sh.rest]), .held (shS y.sh) (shR (w.heap.size + 2) y.sh), .held (spS y) (spR (w.heap.size + 2) y), .held boxS (boxR (w.heap.size + 2) 71 #[.int .i64 0, .slice none 0 0, .slice none 0 0, .int .i64 0, .int .i64 0, .int .i64 0, .slice none 0 0])]
    (by kernel_rfl) (by kernel_rfl) rfl ⟨trivial, trivial, trivial, trivial, shG, spG, boxG, trivial⟩ (crossAll_no _ _ _ _ trivial) ?_
  iterate 4 refine wpStir_const (by go_simp) ?_
  simp only [Act.put, List.setIfInBounds_toArray, List.set_cons_succ, List.set_cons_zero]
  refine wpStir_held rfl (fun w' hb hd => ?_) (fun v hv => ?_)
  · clear hd
    have hz := hb.size
    simp only [World.size_alloc] at hz
    have hc := Lib.hid (copySh_any Ar Af cr cf y.sh w' HF.out.nr HF.out.nf (HS.out.mono hb))
    go_simp
    refine hc.out.mono ?_
    rintro e w'' ⟨⟨gr, gf, c1, c2, rfl, h1, h2⟩, hb'⟩
    refine ⟨_, rfl, hb', ⟨gr, gf, c1, c2, rfl⟩, fun a b c d e => ?_⟩
    obtain ⟨rfl, rfl, rfl, rfl⟩ := shV_inj (show shV y.sh gr gf c1 c2 = shV y.sh a b c d from e)
    exact ⟨owns_lower h1 (by omega), owns_lower h2 (by omega)⟩
  obtain ⟨gr, gf, c1, c2, rfl⟩ := hv
  simp only [Act.put, List.setIfInBounds_toArray, List.set_cons_succ, List.set_cons_zero]
  refine wpStir_held rfl (fun w' hb hd => ?_) (fun v hv => ?_)
  · have h1 := (show shR (w.heap.size + 2) y.sh w' (shV y.sh gr gf c1 c2) from hd.1 (by kernel_rfl)) gr gf c1 c2 rfl
    clear hd
    unfold shV
    go_simp
    refine ⟨⟨gr, gf, c1, c2, rfl⟩, fun a b c d e => ?_⟩
    obtain ⟨rfl, rfl, rfl, rfl⟩ := spV_inj (show spV y gr gf c1 c2 = spV y a b c d from e)
    exact h1
  obtain ⟨gr, gf, c1, c2, rfl⟩ := hv
  refine wpStir_held rfl (fun w' hb hd => ?_) (fun v hv => ?_)
  · clear hd
    have hz := hb.size
    simp only [World.size_alloc] at hz
    go_simp
    refine ⟨bAlloc (Below.refl _ _) _, ⟨_, rfl⟩, fun b e => ?_⟩
    obtain rfl : w'.heap.size = b := by simpa using e
    exact ⟨by omega, TBox.new _ _ _⟩
  obtain ⟨b7, rfl⟩ := hv
  simp only [Act.put, List.setIfInBounds_toArray, List.set_cons_succ, List.set_cons_zero]
  refine wpStir_end (fun w5 hb5 hd => ?_)
  obtain ⟨hb7, htb⟩ := hd.1 b7 rfl
  obtain ⟨hr5, hf5⟩ := hd.2.1 gr gf c1 c2 rfl
  clear hd
  have HR5 := Lib.hid hr5
  have HF5 := Lib.hid hf5
  have HTB := Lib.hid htb
  have HB5 := Lib.hid hb5
  have HB7 := Lib.hid hb7
  have hlt7 := htb.lt
  have x0 : w5.cell? ⟨b7, 0, none⟩ = some (.int .i64 0) := htb.cell 0
  have y0 := htb.frozen 0
  have x1 : w5.cell? ⟨b7, 1, none⟩ = some (.slice none 0 0) := htb.cell 1
  have y1 := htb.frozen 1
  have x2 : w5.cell? ⟨b7, 2, none⟩ = some (.slice none 0 0) := htb.cell 2
  have y2 := htb.frozen 2
  have x3 : w5.cell? ⟨b7, 3, none⟩ = some (.int .i64 0) := htb.cell 3
  have y3 := htb.frozen 3
  have x4 : w5.cell? ⟨b7, 4, none⟩ = some (.int .i64 0) := htb.cell 4
  have y4 := htb.frozen 4
  have x5 : w5.cell? ⟨b7, 5, none⟩ = some (.int .i64 0) := htb.cell 5
  have y5 := htb.frozen 5
  have x6 : w5.cell? ⟨b7, 6, none⟩ = some (.slice none 0 0) := htb.cell 6
  have y6 := htb.frozen 6
  have hz5 := hb5.size
  simp only [World.size_alloc] at hz5
  clear hr5 hf5 htb hb5
  simp only [List.drop_succ_cons, List.drop_zero]
  unfold spV
  go_wp2_with fail
  have HT6 := Lib.hid ((((((((HTB.out.set 0 (.int .i64 y.at_)).set 1 (.slice (some ⟨gr, 0, none⟩) y.sh.nr c1)).set 2 (.slice (some ⟨gf, 0, none⟩) y.sh.nf c2)).set 3 (.int .i64 y.sh.deep)).set 4 (.int .i64 y.sh.haul)).set 5 (.int .i64 y.sh.rest)).set 6 (.slice none 0 0)))
  have HR6 := Lib.hid (show ((((((((w5.setCell ⟨b7, 0, none⟩ (.int .i64 y.at_)).setCell ⟨b7, 1, none⟩ (.slice (some ⟨gr, 0, none⟩) y.sh.nr c1)).setCell ⟨b7, 2, none⟩ (.slice (some ⟨gf, 0, none⟩) y.sh.nf c2)).setCell ⟨b7, 3, none⟩ (.int .i64 y.sh.deep)).setCell ⟨b7, 4, none⟩ (.int .i64 y.sh.haul)).setCell ⟨b7, 5, none⟩ (.int .i64 y.sh.rest)).setCell ⟨b7, 6, none⟩ (.slice none 0 0))).ownsRow (w.heap.size + 2) 190 4 (.slice (some ⟨gr, 0, none⟩) y.sh.nr c1) y.sh.nr (rockL y.sh.rock y.sh.nr) from by
    have ty : ∃ cs, TBox w5 b7 71 cs := ⟨_, HTB.out⟩
    have h := HR5.out
    repeat with_reducible refine owns_setTy (t := 71) ?_ ?_ (by decide) _ _
    with_reducible exact h
    all_goals repeat (first | with_reducible refine TyB.set ?_ _ _ _ | with_reducible exact ty))
  have HF6 := Lib.hid (show ((((((((w5.setCell ⟨b7, 0, none⟩ (.int .i64 y.at_)).setCell ⟨b7, 1, none⟩ (.slice (some ⟨gr, 0, none⟩) y.sh.nr c1)).setCell ⟨b7, 2, none⟩ (.slice (some ⟨gf, 0, none⟩) y.sh.nf c2)).setCell ⟨b7, 3, none⟩ (.int .i64 y.sh.deep)).setCell ⟨b7, 4, none⟩ (.int .i64 y.sh.haul)).setCell ⟨b7, 5, none⟩ (.int .i64 y.sh.rest)).setCell ⟨b7, 6, none⟩ (.slice none 0 0))).ownsRow (w.heap.size + 2) 3 1 (.slice (some ⟨gf, 0, none⟩) y.sh.nf c2) y.sh.nf (intL y.sh.foot y.sh.nf) from by
    have ty : ∃ cs, TBox w5 b7 71 cs := ⟨_, HTB.out⟩
    have h := HF5.out
    repeat with_reducible refine owns_setTy (t := 71) ?_ ?_ (by decide) _ _
    with_reducible exact h
    all_goals repeat (first | with_reducible refine TyB.set ?_ _ _ _ | with_reducible exact ty))
  have HB6 := Lib.hid (show Below (w.heap.size + 2) ((w.alloc (.cells #[.int .i64 y.at_, .slice Ar y.sh.nr cr, .slice Af y.sh.nf cf, .int .i64 y.sh.deep, .int .i64 y.sh.haul, .int .i64 y.sh.rest, .slice Ax y.fl.n cx] 71)).alloc (.cells #[.int .i64 0, .slice none 0 0, .slice none 0 0, .int .i64 0, .int .i64 0, .int .i64 0, .slice none 0 0] 71)) _ from (Below.setCell (p := ⟨b7, 6, none⟩) (Below.setCell (p := ⟨b7, 5, none⟩) (Below.setCell (p := ⟨b7, 4, none⟩) (Below.setCell (p := ⟨b7, 3, none⟩) (Below.setCell (p := ⟨b7, 2, none⟩) (Below.setCell (p := ⟨b7, 1, none⟩) (Below.setCell (p := ⟨b7, 0, none⟩) (by have := HB5.out; simpa using this) (show w.heap.size + 2 ≤ b7 from HB7.out) (.int .i64 y.at_)) (show w.heap.size + 2 ≤ b7 from HB7.out) (.slice (some ⟨gr, 0, none⟩) y.sh.nr c1)) (show w.heap.size + 2 ≤ b7 from HB7.out) (.slice (some ⟨gf, 0, none⟩) y.sh.nf c2)) (show w.heap.size + 2 ≤ b7 from HB7.out) (.int .i64 y.sh.deep)) (show w.heap.size + 2 ≤ b7 from HB7.out) (.int .i64 y.sh.haul)) (show w.heap.size + 2 ≤ b7 from HB7.out) (.int .i64 y.sh.rest)) (show w.heap.size + 2 ≤ b7 from HB7.out) (.slice none 0 0)))
  have hltr : gr < w5.heap.size := (HR5.out.lt gr rfl).2
  have hltf : gf < w5.heap.size := (HF5.out.lt gf rfl).2
  clear x0 x1 x2 x3 x4 x5 x6 y0 y1 y2 y3 y4 y5 y6
  go_loopw [4] (fun s wr => ∃ (k : Nat) (V : Value) (vs : List Value), k ≤ y.fl.n ∧ s = .int .i64 k ∧ TBox wr b7 71 #[.int .i64 y.at_, .slice (some ⟨gr, 0, none⟩) y.sh.nr c1, .slice (some ⟨gf, 0, none⟩) y.sh.nf c2, .int .i64 y.sh.deep, .int .i64 y.sh.haul, .int .i64 y.sh.rest, V] ∧ wr.ownsRow w5.heap.size 34 1 V k vs ∧ WdRowsU w.heap.size wr y.fl k vs ∧ w5.heap.size ≤ wr.heap.size ∧ wr.ownsRow (w.heap.size + 2) 190 4 (.slice (some ⟨gr, 0, none⟩) y.sh.nr c1) y.sh.nr (rockL y.sh.rock y.sh.nr) ∧ wr.ownsRow (w.heap.size + 2) 3 1 (.slice (some ⟨gf, 0, none⟩) y.sh.nf c2) y.sh.nf (intL y.sh.foot y.sh.nf) ∧ Below (w.heap.size + 2) ((w.alloc (.cells #[.int .i64 y.at_, .slice Ar y.sh.nr cr, .slice Af y.sh.nf cf, .int .i64 y.sh.deep, .int .i64 y.sh.haul, .int .i64 y.sh.rest, .slice Ax y.fl.n cx] 71)).alloc (.cells #[.int .i64 0, .slice none 0 0, .slice none 0 0, .int .i64 0, .int .i64 0, .int .i64 0, .slice none 0 0] 71)) wr) (fun s _ => y.fl.n - (intOf s).toNat)
  case atStart => exact ⟨0, .slice none 0 0, [], Nat.zero_le _, rfl, HT6.out, World.ownsRow_nil _ _ _ _, WdRowsU.nil, by simp, HR6.out, HF6.out, HB6.out⟩
  case round =>
    obtain ⟨k, V, vs, hk, rfl, hbx, hown, hrows, hsz5, hrr, hff, hbel⟩ := hrel
    have HT := Lib.hid hbx
    have HO := Lib.hid hown
    have HR := Lib.hid hrows
    have HRR := Lib.hid hrr
    have HFF := Lib.hid hff
    have HL := Lib.hid hbel
    have hbw : Below w.heap.size w wr := bTrans HB.out (by simpa using hbel)
    have HW := Lib.hid hbw
    have HXW := Lib.hid (HX.out.mono (show Below ((w.alloc (.cells #[.int .i64 y.at_, .slice Ar y.sh.nr cr, .slice Af y.sh.nf cf, .int .i64 y.sh.deep, .int .i64 y.sh.haul, .int .i64 y.sh.rest, .slice Ax y.fl.n cx] 71)).alloc (.cells #[.int .i64 0, .slice none 0 0, .slice none 0 0, .int .i64 0, .int .i64 0, .int .i64 0, .slice none 0 0] 71)).heap.size _ wr by simpa using hbel))
    have p0 := (hbel.cell (p := ⟨w.heap.size, 6, none⟩) (by show w.heap.size < w.heap.size + 2; omega)).trans (show _ = some (.slice Ax y.fl.n cx) by simp [go_sem])
    have q1 : wr.cell? ⟨b7, 6, none⟩ = some V := hbx.cell 6
    have q2 := hbx.frozen 6
    have hz : b7 < wr.heap.size := hbx.lt
    have hy : w.heap.size < wr.heap.size := by omega
    clear hbx hown hrows hrr hff hbel hbw
    by_cases hlt : k < y.fl.n
    · rcases HXW.out with h0 | ⟨b, o, hA, hb, hc⟩
      · omega
      obtain ⟨A', c', c0, hrow, hlen⟩ := hc k hlt
      subst hA
      obtain ⟨m, hm⟩ : ∃ m, y.fl.len k = m := ⟨_, rfl⟩
      rw [hm] at c0 hrow hlen
      have HM := Lib.hid hm
      have HROW := Lib.hid (intsAt_row.1 hrow)
      have HFM := Lib.hid (show m * 8 ≤ 140737488351232 by have := HF.out.fl.2 k hlt; rw [hm] at this; exact this)
      have k1 : (k : Int) < (y.fl.n : Int) := by omega
      have k0 : (0 : Int) ≤ (k : Int) := by omega
      clear hc hrow hm
      go_wp2_with fail
      refine wp_region_pin 10 [.const (.pointer (some ⟨b7, 6, none⟩)), .const V, .held emptyV anyR, .const (.pointer (some ⟨w.heap.size, 6, none⟩)), .const (.slice (some ⟨b, o, none⟩) y.fl.n cx), .const (.int .i64 k), .const (.pointer (some ⟨b, o + k, none⟩)), .const (.slice A' m c'), .held (ShapeOf m) (AtHand wr.heap.size 3 1 m (intL (y.fl.fall k) m)), .held one1 (rowInU w.heap.size m (intL (y.fl.fall k) m))]
        [.pointer (some ⟨b7, 6, none⟩)] (by kernel_rfl) (by kernel_rfl) rfl ⟨trivial, trivial, anyG, trivial, trivial, trivial, trivial, trivial, shapeG _ _ _ _ _, ⟨⟨_, 0, rfl⟩, fun _ _ _ hb h => rowInU_mono hb h⟩, trivial⟩ (crossAll_no _ _ _ _ trivial) rfl rfl (fun j u hj => ?_) ?_
      · match j, hj with
        | 0, hj =>
          obtain rfl : Value.pointer (some ⟨b7, 6, none⟩) = u := by simpa using hj
          exact ⟨_, rfl, rfl, fun w' => by go_simp⟩
      iterate 2 refine wpStir_const (by go_simp) ?_
      refine wpStir_held rfl (fun w' hb hd => ?_) (fun v hv => ?_)
      · clear hd
        go_simp
        exact ⟨bAlloc (Below.refl _ _) _, ⟨_, rfl⟩, trivial⟩
      obtain ⟨b1, rfl⟩ := hv
      iterate 5 refine wpStir_const (by go_simp) ?_
      simp only [Act.put, List.setIfInBounds_toArray, List.set_cons_succ, List.set_cons_zero]
      refine wpStir_held rfl (fun w' hb hd => ?_) (fun v hv => ?_)
      · clear hd
        exact stir_copy2 w' (Operand.tmp 20) (Operand.tmp 25) 34 rfl 3 (.int .i64 0) 1 8 infoInt Tryz.underlying34 rfl (by decide) b1 A' m c' (intL (y.fl.fall k) m) rfl rfl (by rw [intL_len, Nat.mul_one]) (HROW.out.mono hb) (by unfold maxLen; have := HFM.out; omega) (by have := HFM.out; omega) _ hb.size
      obtain ⟨b2, c3, rfl⟩ := hv
      refine wpStir_held rfl (fun w' hb hd => ?_) (fun v hv => ?_)
      · have h1 : AtHand wr.heap.size 3 1 m (intL (y.fl.fall k) m) w' (.slice (some ⟨b2, 0, none⟩) m c3) := hd.1 (by kernel_rfl)
        clear hd
        obtain ⟨A3, c4, e3, h3⟩ := h1.rowC (N := w.heap.size) (HW.out.size)
        injection e3 with e3 _ e4
        subst e3 e4
        go_simp
        exact ⟨bAlloc (Below.refl _ _) _, ⟨_, rfl⟩, fun b' hb' => by
          obtain rfl : w'.heap.size = b' := by simpa using hb'
          exact ⟨some ⟨b2, 0, none⟩, c3, by simp [go_sem], h3.mono (bAlloc (Below.refl _ _) _)⟩⟩
      obtain ⟨b3, rfl⟩ := hv
      simp only [Act.put, List.setIfInBounds_toArray, List.set_cons_succ, List.set_cons_zero]
      refine wpStir_end (fun w9 hb9 hd => ?_)
      obtain ⟨A4, c4, h4, h5⟩ := hd.1 b3 rfl
      clear hd
      have HT9 := Lib.hid (HT.out.mono hb9)
      have HO9 := Lib.hid (owns_below HO.out hb9)
      have HR9 := Lib.hid (HR.out.kept (Kept.of_below (l := [3]) hb9) (by simp))
      have HRR9 := Lib.hid (owns_below HRR.out hb9)
      have HFF9 := Lib.hid (owns_below HFF.out hb9)
      have HK9 := Lib.hid h5
      have HL9 := Lib.hid (HL.out.trans (hb9.mono (by have := HT.out.lt; have := HB7.out; omega)))
      have HN9 := Lib.hid (show (k + 1) * 24 ≤ 140737488351232 by have := HF.out.fl.1; omega)
      refine stir_own (Operand.tmp 19) (Operand.tmp 27) 69 rfl w5.heap.size 34 (.slice none 0 0) 1 24 infoRow Tryz.underlying69 rfl (by decide) V k vs rfl HO9.out ⟨b3, 0, none⟩ 1 1 [.slice A4 m c4] rfl rfl (news1 h4) (one1c rfl) (by unfold maxLen; have := HN9.out; omega) (by have := HN9.out; omega) (by have := hb9.size; omega) (fun v' w10 hown10 hg10 => ?_)
      obtain ⟨A6, c6, rfl, _⟩ := RowK.own hown10
      have hnb : some b7 ≠ V.ownBlock := fun e => by have := HO9.out.lt _ e.symm; omega
      have hnr : (Value.slice (some ⟨gr, 0, none⟩) y.sh.nr c1).ownBlock ≠ V.ownBlock := fun e => by
        have := HO9.out.lt gr e.symm
        omega
      have hnf : (Value.slice (some ⟨gf, 0, none⟩) y.sh.nf c2).ownBlock ≠ V.ownBlock := fun e => by
        have := HO9.out.lt gf e.symm
        omega
      have HT10 := Lib.hid (HT9.out.grown hg10 hnb)
      have hk10 : Kept [3] w9 w10 := Kept.of_own hg10 HO9.out (by decide)
      have HR10 := Lib.hid (HR9.out.kept hk10 (by simp))
      have HK10 := Lib.hid (Clo.kept HK9.out (hk10.sub (by simp)))
      have HRR10 := Lib.hid (HRR9.out.kept hg10 (.inr hnr))
      have HFF10 := Lib.hid (HFF9.out.kept hg10 (.inr hnf))
      have HL10 := Lib.hid (HL9.out.grown hg10 (by have := HT9.out.lt; have := HB7.out; omega) (fun q hq => by have := (HO9.out.lt q hq).1; have := HB7.out; omega))
      have HO10 := Lib.hid hown10
      have hz10 : w5.heap.size ≤ w10.heap.size := by have := hg10.size; have := hb9.size; omega
      have r1 : w10.cell? ⟨b7, 6, none⟩ = some V := HT10.out.cell 6
      have r2 := HT10.out.frozen 6
      clear hown10 hg10 h4 h5 hb9 p0 q1 q2 c0 hnb hnr hnf hk10
      simp only [putF, Act.put, List.setIfInBounds_toArray, List.set_cons_succ, List.set_cons_zero, List.drop_succ_cons, List.drop_zero]
      go_wp2_with fail
      go_roundw
      case rel =>
        have hk11 : Kept [3] w10 (w10.setCell ⟨b7, 6, none⟩ (.slice A6 (k + 1) c6)) := Kept.set HT10.out (by decide) 6 _
        have hs11 : WdRowsU w.heap.size (w10.setCell ⟨b7, 6, none⟩ (.slice A6 (k + 1) c6)) y.fl (k + 1) (vs ++ [.slice A4 m c4]) := by
          have := (HR10.out.kept hk11 (by simp)).snoc (A := A4) (c := c4) (by rw [HM.out]; exact Clo.kept HK10.out (hk11.sub (by simp))) (by rw [HM.out]; exact hlen)
          rw [HM.out] at this
          exact this
        refine ⟨k + 1, .slice A6 (k + 1) c6, _, by omega, ?_, HT10.out.set 6 (.slice A6 (k + 1) c6), owns_set HO10.out (by omega) 6 (.slice A6 (k + 1) c6), hs11, by simpa using hz10, owns_setT HRR10.out HT10.out (by decide) 6 _, owns_setT HFF10.out HT10.out (by decide) 6 _, HL10.out.setCell (p := ⟨b7, 6, none⟩) (show w.heap.size + 2 ≤ b7 from HB7.out) (.slice A6 (k + 1) c6)⟩
        go_num
      case measure => simp [intOf]; omega
    · obtain rfl : k = y.fl.n := by omega
      obtain ⟨A6, c6, rfl, _⟩ := RowK.own HO.out
      have q10 : wr.cell? ⟨b7, 0, none⟩ = some (.int .i64 y.at_) := HT.out.cell 0
      have q11 : wr.cell? ⟨b7, 1, none⟩ = some (.slice (some ⟨gr, 0, none⟩) y.sh.nr c1) := HT.out.cell 1
      have q12 : wr.cell? ⟨b7, 2, none⟩ = some (.slice (some ⟨gf, 0, none⟩) y.sh.nf c2) := HT.out.cell 2
      have q13 : wr.cell? ⟨b7, 3, none⟩ = some (.int .i64 y.sh.deep) := HT.out.cell 3
      have q14 : wr.cell? ⟨b7, 4, none⟩ = some (.int .i64 y.sh.haul) := HT.out.cell 4
      have q15 : wr.cell? ⟨b7, 5, none⟩ = some (.int .i64 y.sh.rest) := HT.out.cell 5
      have hTR : TBox wr (w.heap.size + 1) 71 #[.int .i64 0, .slice none 0 0, .slice none 0 0, .int .i64 0, .int .i64 0, .int .i64 0, .slice none 0 0] := (HL.out.block (w.heap.size + 1) (by omega)).trans (by have := HTR.out; simpa [TBox] using this)
      have HTR9 := Lib.hid hTR
      have s0 : wr.cell? ⟨w.heap.size + 1, 0, none⟩ = some (.int .i64 0) := hTR.cell 0
      have t0 := hTR.frozen 0
      have s1 : wr.cell? ⟨w.heap.size + 1, 1, none⟩ = some (.slice none 0 0) := hTR.cell 1
      have t1 := hTR.frozen 1
      have s2 : wr.cell? ⟨w.heap.size + 1, 2, none⟩ = some (.slice none 0 0) := hTR.cell 2
      have t2 := hTR.frozen 2
      have s3 : wr.cell? ⟨w.heap.size + 1, 3, none⟩ = some (.int .i64 0) := hTR.cell 3
      have t3 := hTR.frozen 3
      have s4 : wr.cell? ⟨w.heap.size + 1, 4, none⟩ = some (.int .i64 0) := hTR.cell 4
      have t4 := hTR.frozen 4
      have s5 : wr.cell? ⟨w.heap.size + 1, 5, none⟩ = some (.int .i64 0) := hTR.cell 5
      have t5 := hTR.frozen 5
      have s6 : wr.cell? ⟨w.heap.size + 1, 6, none⟩ = some (.slice none 0 0) := hTR.cell 6
      have t6 := hTR.frozen 6
      have hy1 : w.heap.size + 1 < wr.heap.size := hTR.lt
      clear hTR
      go_wp2_with fail
      have hT0 := HTR9.out.set 0 (.int .i64 y.at_)
      have hT1 := hT0.set 1 (.slice (some ⟨gr, 0, none⟩) y.sh.nr c1)
      have hT2 := hT1.set 2 (.slice (some ⟨gf, 0, none⟩) y.sh.nf c2)
      have hT3 := hT2.set 3 (.int .i64 y.sh.deep)
      have hT4 := hT3.set 4 (.int .i64 y.sh.haul)
      have hT5 := hT4.set 5 (.int .i64 y.sh.rest)
      have ty : ∃ cs, TBox wr (w.heap.size + 1) 71 cs := ⟨_, HTR9.out⟩
      refine bodyPost_ret (v := .agg #[.int .i64 y.at_, .slice (some ⟨gr, 0, none⟩) y.sh.nr c1, .slice (some ⟨gf, 0, none⟩) y.sh.nf c2, .int .i64 y.sh.deep, .int .i64 y.sh.haul, .int .i64 y.sh.rest, .slice A6 y.fl.n c6]) (by simp [results, Tryz.results78, go_sem, *]) rfl ⟨⟨gr, gf, c1, c2, .slice A6 y.fl.n c6, vs, rfl, ?_, ?_, ?_, HR.out.kept ((show Kept [3] wr _ from (Kept.trans (Kept.trans (Kept.trans (Kept.trans (Kept.trans (Kept.trans (Kept.set HTR9.out (by decide) 0 _) (Kept.set hT0 (by decide) 1 _)) (Kept.set hT1 (by decide) 2 _)) (Kept.set hT2 (by decide) 3 _)) (Kept.set hT3 (by decide) 4 _)) (Kept.set hT4 (by decide) 5 _)) (Kept.set hT5 (by decide) 6 _)))) (by simp)⟩, ?_⟩
      · refine owns_lower (base := w.heap.size + 2) ?_ (by omega)
        have h := HRR.out
        repeat with_reducible refine owns_setTy (t := 71) ?_ ?_ (by decide) _ _
        with_reducible exact h
        all_goals repeat (first | with_reducible refine TyB.set ?_ _ _ _ | with_reducible exact ty)
      · refine owns_lower (base := w.heap.size + 2) ?_ (by omega)
        have h := HFF.out
        repeat with_reducible refine owns_setTy (t := 71) ?_ ?_ (by decide) _ _
        with_reducible exact h
        all_goals repeat (first | with_reducible refine TyB.set ?_ _ _ _ | with_reducible exact ty)
      · refine owns_lower (base := w5.heap.size) ?_ (by have := HB7.out; omega)
        have h := HO.out
        repeat with_reducible refine owns_setTy (t := 71) ?_ ?_ (by decide) _ _
        with_reducible exact h
        all_goals repeat (first | with_reducible refine TyB.set ?_ _ _ _ | with_reducible exact ty)
      · exact (Below.setCell (p := ⟨w.heap.size + 1, 6, none⟩) (Below.setCell (p := ⟨w.heap.size + 1, 5, none⟩) (Below.setCell (p := ⟨w.heap.size + 1, 4, none⟩) (Below.setCell (p := ⟨w.heap.size + 1, 3, none⟩) (Below.setCell (p := ⟨w.heap.size + 1, 2, none⟩) (Below.setCell (p := ⟨w.heap.size + 1, 1, none⟩) (Below.setCell (p := ⟨w.heap.size + 1, 0, none⟩) HW.out (by simp) (.int .i64 y.at_)) (by simp) (.slice (some ⟨gr, 0, none⟩) y.sh.nr c1)) (by simp) (.slice (some ⟨gf, 0, none⟩) y.sh.nf c2)) (by simp) (.int .i64 y.sh.deep)) (by simp) (.int .i64 y.sh.haul)) (by simp) (.int .i64 y.sh.rest)) (by simp) (.slice A6 y.fl.n c6))
end Go.Proofs.YthnojgdckkdcgaaGreatDoor

