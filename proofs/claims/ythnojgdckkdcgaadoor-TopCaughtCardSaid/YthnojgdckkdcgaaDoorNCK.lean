/- Parts joined: what all claims of this seat need. -/
import Derived.Test.YthnojgdckkdcgaaDoorNCJ
import Derived.Test.YthnojgdckkdcgaaDoorNCG
import Derived.Test.YthnojgdckkdcgaaDoorNCI
import Derived.Test.YthnojgdckkdcgaaDoorNCE
import Derived.Test.YthnojgdckkdcgaaDoorNCH
set_option linter.unusedSimpArgs false
set_option linter.unusedVariables false
namespace Go.Proofs.YthnojgdckkdcgaaDoor
open Go.RowKit Go.Sort Go.Shelf
attribute [local go_sem] Oper.semAt_some
/-- what Next finds -/
def Qt.nextP (t : Qt) (L : List Int) : Option Tp := if 0 < t.depth L then t.tests.find? (fun x => 1 + t.afterP x L == t.depth L) else none
noncomputable def Qt.nextErr (t : Qt) : Int := if t.knowErr true = 0 then (if (t.nextP t.leftL).isSome then 0 else 3) else t.knowErr true
noncomputable def Qt.nextOut (t : Qt) : Tp := if t.knowErr true = 0 then (t.nextP t.leftL).getD (0, 0) else (0, 0)
theorem grown_cell {w w' : World} {r : Option Nat} {b : Nat} (h : w.grownBy w' r) (hb : w.heap.size ≤ b) (o : Nat) (v : Value) : w.grownBy (w'.setCell ⟨b, o, none⟩ v) r :=
  ⟨h.os, h.tape, h.output, by simpa [World.setCell] using h.size, fun k hk hr => (Below.heap_setCell w' ⟨b, o, none⟩ v k (by show k ≠ b; omega)).trans (h.block k hk hr)⟩
def Qt.nextB (t : Qt) (L : List Int) (x : Tp) : Bool := decide (0 < t.depth L) && (1 + t.afterP x L == t.depth L)
theorem nextP_find (t : Qt) (L : List Int) : t.nextP L = t.tests.find? (t.nextB L) := by
  unfold Qt.nextP
  split
  · rename_i h
    congr 1
    funext x
    unfold Qt.nextB
    rw [decide_eq_true h, Bool.true_and]
  · rename_i h
    symm
    rw [List.find?_eq_none]
    intro x _
    unfold Qt.nextB
    simp [h]
theorem find_prefix {α : Type} {p : α → Bool} {l l' : List α} {x : α} (h : l <+: l') (hf : l.find? p = some x) : l'.find? p = some x := by
  obtain ⟨r, rfl⟩ := h
  rw [List.find?_append, hf]
  rfl
theorem find_snoc_none {α : Type} {p : α → Bool} {l : List α} {x : α} (h : l.find? p = none) (hx : p x = false) : (l ++ [x]).find? p = none := by
  rw [List.find?_append, h]
  simp [hx]
theorem find_snoc_some {α : Type} {p : α → Bool} {l : List α} {x : α} (h : l.find? p = none) (hx : p x = true) : (l ++ [x]).find? p = some x := by
  rw [List.find?_append, h]
  simp [hx]
section
variable {P : Program} {ops : Array Oper} {Cl : World → Prop}
theorem wpCls_on {Q : Act → Prop} {o : Oper} {rest : List Oper} {c : Value} {cs : List Value} {a : Act} (hw : Region.wanted o (yielded ops a.tmps) = true) (h1 : ∀ w', Cl w' → clsAt P Cl o a w' c) (h2 : wpCls P ops Cl Q rest cs (a.put o.dst c)) : wpCls P ops Cl Q (o :: rest) (c :: cs) a := by
  refine wpCls_step ?_ h2
  rw [if_pos hw]
  exact h1
theorem wpCls_off {Q : Act → Prop} {o : Oper} {rest : List Oper} {cs : List Value} {a : Act} (hw : Region.wanted o (yielded ops a.tmps) = false) (h2 : wpCls P ops Cl Q rest cs (a.put o.dst undef)) : wpCls P ops Cl Q (o :: rest) (undef :: cs) a := by
  refine wpCls_step ?_ h2
  rw [if_neg (by rw [hw]; decide)]
end
theorem next_set {w W : World} {b : Nat} {x y z x0 y0 z0 : Value} (hb : Below w.heap.size w W) (h1 : w.heap.size ≤ b) (hlt : b + 1 < W.heap.size) (t0 : W.cell? ⟨b, 0, none⟩ = some x0) (t1 : W.cell? ⟨b, 1, none⟩ = some y0) (t2 : W.cell? ⟨b + 1, 0, none⟩ = some z0) (B : Nat) :
    BoxAt (((W.setCell ⟨b, 0, none⟩ x).setCell ⟨b, 1, none⟩ y).setCell ⟨b + 1, 0, none⟩ z) b [x, y] ∧ BoxAt (((W.setCell ⟨b, 0, none⟩ x).setCell ⟨b, 1, none⟩ y).setCell ⟨b + 1, 0, none⟩ z) (b + 1) [z] ∧ Below w.heap.size w (((W.setCell ⟨b, 0, none⟩ x).setCell ⟨b, 1, none⟩ y).setCell ⟨b + 1, 0, none⟩ z) ∧ KeepsFrom B W (((W.setCell ⟨b, 0, none⟩ x).setCell ⟨b, 1, none⟩ y).setCell ⟨b + 1, 0, none⟩ z) := by
  have k1 : (W.setCell ⟨b, 0, none⟩ x).cell? ⟨b, 0, none⟩ = some x := World.cell?_setCell_same _ _ _ t0
  have k2 : (W.setCell ⟨b, 0, none⟩ x).cell? ⟨b, 1, none⟩ = some y0 := (World.cell?_setCell_other _ _ _ _ (fun e => by injection e with _ e; cases e)).trans t1
  have k3 : (W.setCell ⟨b, 0, none⟩ x).cell? ⟨b + 1, 0, none⟩ = some z0 := (World.cell?_setCell_other _ _ _ _ (fun e => by injection e with e; omega)).trans t2
  have l1 : ((W.setCell ⟨b, 0, none⟩ x).setCell ⟨b, 1, none⟩ y).cell? ⟨b, 0, none⟩ = some x := (World.cell?_setCell_other _ _ _ _ (fun e => by injection e with _ e; cases e)).trans k1
  have l2 : ((W.setCell ⟨b, 0, none⟩ x).setCell ⟨b, 1, none⟩ y).cell? ⟨b, 1, none⟩ = some y := World.cell?_setCell_same _ _ _ k2
  have l3 : ((W.setCell ⟨b, 0, none⟩ x).setCell ⟨b, 1, none⟩ y).cell? ⟨b + 1, 0, none⟩ = some z0 := (World.cell?_setCell_other _ _ _ _ (fun e => by injection e with e; omega)).trans k3
  refine ⟨BoxAt.two (by simp [World.setCell]; omega) ((World.cell?_setCell_other _ _ _ _ (fun e => by injection e with e; omega)).trans l1) ((World.cell?_setCell_other _ _ _ _ (fun e => by injection e with e; omega)).trans l2), ⟨by simp [World.setCell]; omega, fun i v hi => ?_⟩, ?_, ?_⟩
  · match i, hi with
    | 0, hi => injection hi with hi; subst hi; exact World.cell?_setCell_same _ _ _ l3
  · exact Below.setCell (p := ⟨b + 1, 0, none⟩) (Below.setCell (p := ⟨b, 1, none⟩) (Below.setCell (p := ⟨b, 0, none⟩) hb h1 _) h1 _) (by show w.heap.size ≤ b + 1; omega) _
  · exact (((KeepsOthers.setCell W _ _).trans (KeepsOthers.setCell _ _ _)).trans (KeepsOthers.setCell _ _ _)).from _
/-- the worlds of the region: the map is right; the new box is there -/
def NextCl (w : World) (mp : Nat) (t : Qt) (ob : Option Nat) (w' : World) : Prop := w.grownBy w' (some mp) ∧ DepMap w' mp t ∧ ∀ b, ob = some b → w.heap.size ≤ b ∧ Boxed w' b 3 (.int .i64 0)
theorem NextCl.step {w w' w'' : World} {mp : Nat} {t : Qt} {ob : Option Nat} (h : NextCl w mp t ob w') (hmp : mp < w.heap.size) (hg : w'.grownBy w'' (some mp)) (hd : DepMap w'' mp t) : NextCl w mp t ob w'' :=
  ⟨grown_trans h.1 hg, hd, fun b hb => ⟨(h.2.2 b hb).1, (h.2.2 b hb).2.kept hg (fun e => by injection e with e; have := (h.2.2 b hb).1; omega)⟩⟩
theorem NextCl.start {w : World} {mp : Nat} {t : Qt} (h : DepMap w mp t) : NextCl w mp t none { w with drawn := w.drawn + 1 } := by
  have hb : Below w.heap.size w { w with drawn := w.drawn + 1 } := (Below.refl _ _).drew
  exact ⟨grown_below hb, h.mono hb, fun b e => by cases e⟩
theorem NextCl.new {w w' : World} {mp : Nat} {t : Qt} (h : NextCl w mp t none w') : NextCl w mp t (some w'.heap.size) (w'.alloc (.cells #[.int .i64 0] 3)) :=
  ⟨grown_alloc h.1 _, h.2.1.mono (bAlloc (Below.refl _ _) _), fun b hb => by injection hb with hb; subst hb; exact ⟨h.1.size, Boxed.new _ _ _⟩⟩
set_option maxHeartbeats 4000000 in
set_option maxRecDepth 100000 in
theorem nextQ_any (Aw Af : Option Addr) (cw cf : Nat) (t : Qt) (w : World) (hs : t.Small) (hT : QAt w Aw Af t) (hB : TabAt w) :
    Calls Tryd.prog 15 #[.agg #[.int .i64 t.wells, .slice Aw t.nw cw, .slice Af t.nf cf]] w fun e w' => e = .returned (.tuple #[.agg #[.int .i64 t.nextOut.1, .int .i64 t.nextOut.2], .int .i64 t.nextErr]) ∧ Below w.heap.size w w' := by
  have hb0 := bAlloc (bAlloc (bAlloc (Below.refl w.heap.size w) (.cells #[.int .i64 t.wells, .slice Aw t.nw cw, .slice Af t.nf cf] 39)) (.cells #[.int .i64 0, .int .i64 0] 51)) (.cells #[.int .i64 0] 27)
  have HT := Lib.hid (hT.mono hb0)
  have HTB := Lib.hid (hB.mono hb0)
  have HB := Lib.hid hb0
  clear hT hb0 hB
  refine (callsIn_wide (n := 9)).1 ?_
  refine callsIn_of_wp_marks Tryd.func15 rfl trivial ?_ rfl
  simp only [Tryd.ntmps15, List.size_toArray, List.length_cons, List.length_nil, Nat.reduceAdd, Nat.reduceSub, Array.replicate_succ, Array.replicate_zero, List.push_toArray, List.append_toArray, List.nil_append, List.cons_append]
  by_cases he : t.knowErr true = 0
  · obtain ⟨ok, _, _⟩ := knowErr_zero he
    have HKE := Lib.hid he
    have HOK := Lib.hid ok
    obtain ⟨s, hsk⟩ : ∃ s, t.maskTo t.nw = s := ⟨_, rfl⟩
    have HBM := Lib.hid (show bitsL s = t.leftL by rw [← hsk]; exact bits_mask t ok.nw)
    have H64 := Lib.hid (show s < 64 by rw [← hsk]; exact mask_64 t ok.nw)
    have HSUB := Lib.hid (show ∀ i : Nat, s.testBit i = true → i < t.nw by rw [← hsk]; exact mask_sub)
    have HSK := Lib.hid hsk
    clear hsk ok he
    gi_wp2
    refine ⟨trivial, (callsIn_wide.2 (openQ_any _ _ _ _ t _ _ hs HT.out)).mono ?_⟩
    rintro e w1 ⟨⟨_, hk⟩, hb1⟩
    obtain ⟨C, mp, rfl, hc, hCb, hm, hbm⟩ := hk HKE.out
    rw [HSK.out] at hc
    have HD := Lib.hid (denv_ask hb1 hc hm HT.out HTB.out hbm)
    have HB1 := Lib.hid hb1
    have z1 := hb1.size
    simp only [World.size_alloc] at z1
    clear hk hc hb1 hm hbm
    gi_wp2
    generalize hw4 : w1.alloc (.cells #[.pointer (some ⟨C, 0, none⟩)] 74) = w4
    have hb4 : Below w1.heap.size w1 w4 := hw4 ▸ bAlloc (Below.refl _ _) _
    have hz4 : w4.heap.size = w1.heap.size + 1 := by rw [← hw4]; simp
    have y4 : w4.cell? ⟨w1.heap.size, 0, none⟩ = some (.pointer (some ⟨C, 0, none⟩)) := by rw [← hw4]; simp [go_sem]
    have HD4 := Lib.hid (HD.out.mono hb4)
    have HB4 := Lib.hid (bTrans HB1.out hb4)
    have x1 := HD4.out.court.box.lt
    have x2 := HD4.out.dep.lt
    obtain ⟨n, hn⟩ : ∃ n, t.depth (bitsL s) = n := ⟨_, rfl⟩
    have HEN := Lib.hid (fun (W' : World) (hg : w4.grownBy W' (some mp)) (hd : DepMap W' mp t) => (hn ▸ enough_any HOK.out (s + 1) s (Nat.lt_succ_self s) H64.out HSUB.out W' (HD4.out.step hg hd) : Calls Tryd.prog 28 #[.pointer (some ⟨C, 0, none⟩), .int .u64 s] W' fun e w' => e = .returned (.int .i64 n) ∧ W'.grownBy w' (some mp) ∧ DepMap w' mp t))
    have HN := Lib.hid hn
    clear hb4 hn hw4
    refine wpIn_region_one (openWide _) 7 6 [some (.pointer (some ⟨C, 0, none⟩)), some (.pointer (some ⟨C, 0, none⟩)), some (.pointer (some ⟨C, 0, none⟩)), some (.pointer (some ⟨C, 3, none⟩)), some (.int .u64 (s : Int)), some (.int .i64 n), none] (NextCl w4 mp t) (fun b => .pointer (some ⟨b, 0, none⟩)) (by kernel_rfl) (by kernel_rfl) rfl rfl rfl (NextCl.start HD4.out.dep) (fun b6 => ?_)
    iterate 6
      refine wpOne_do rfl (fun ob W' hw' => ?_) ?_
      · have hw' : NextCl w4 mp t ob W' := hw'
        have g4 := (cell_of_heap (hw'.1.block w1.heap.size (by omega) (fun e => by injection e with e; have := HD.out.dep.lt; omega)) 0).trans y4
        have gC := (cell_of_heap (hw'.1.block C x1 (fun e => HD.out.ne (by injection e))) 3).trans (HD4.out.court.box.cell 3 _ rfl)
        have HW := Lib.hid hw'
        clear hw' y4
        go_simp
        try
          (refine (HEN.out W' HW.out.1 HW.out.2.1).mono ?_
           rintro e w'' ⟨rfl, h1, h2⟩
           exact ⟨rfl, HW.out.step x2 h1 h2⟩)
        try exact HW.out
      try simp only [Act.put, List.setIfInBounds_toArray, List.set_cons_succ, List.set_cons_zero]
    refine wpOne_new rfl (fun W' hw' => ⟨W'.heap.size, ?_⟩) ?_
    · have HW := Lib.hid hw'
      clear hw' y4
      go_simp
      exact HW.out.new
    simp only [Act.put, List.setIfInBounds_toArray, List.set_cons_succ, List.set_cons_zero]
    refine wpOne_nil ?_
    intro W' hw'
    have HCL := Lib.hid hw'
    obtain ⟨hg', hd', hbx⟩ := hw'
    obtain ⟨hb6, hbx⟩ := hbx b6 rfl
    have q1 := hbx.cell
    have q2 := hbx.frozen
    have q3 := hbx.lt
    have q4 := (cell_of_heap (hg'.block w1.heap.size (by omega) (fun e => by injection e with e; have := HD.out.dep.lt; omega)) 0).trans y4
    have q6 : b6 ≠ w1.heap.size := by omega
    have q7 : w1.heap.size ≠ b6 := by omega
    have q5 : w1.heap.size < W'.heap.size := Nat.lt_of_lt_of_le (by omega) hg'.size
    have HB6 := Lib.hid hb6
    have HBX := Lib.hid hbx
    have Y4 := Lib.hid y4
    clear hg' hd' hbx hb6 y4
    simp only [List.drop_succ_cons, List.drop_zero]
    gi_wp2
    generalize hw5 : W'.setCell ⟨b6, 0, none⟩ (.int .i64 n) = w5
    have HCT := Lib.hid HD4.out.court
    obtain ⟨m, hm⟩ : ∃ m : Nat, t.wells = (m : Int) := ⟨t.wells.toNat, by have := HOK.out.w0; omega⟩
    have HM := Lib.hid hm
    have m4 : m ≤ 4 := by have := HOK.out.w1; omega
    have HTE := Lib.hid (show t.tests = testsL m by unfold Qt.tests; rw [hm]; rfl)
    have hg5 : w4.grownBy w5 (some mp) := hw5 ▸ grown_cell HCL.out.1 HB6.out _ _
    have hd5 : DepMap w5 mp t := hw5 ▸ HCL.out.2.1.set (by have := HB6.out; omega) _ _
    have hx5 : Boxed w5 b6 3 (.int .i64 n) := hw5 ▸ HBX.out.set _
    have HG5 := Lib.hid hg5
    have HX5 := Lib.hid hx5
    have HE5 := Lib.hid (HD4.out.step hg5 hd5)
    have hc5 := HE5.out.court.box.cell 0 _ rfl
    rw [hm] at hc5
    have hl5 := HE5.out.court.box.lt
    have hz5 := hg5.size
    have hb6 := hx5.lt
    have hmp := HD.out.dep.lt
    have hbm := HD.out.base
    simp only [World.size_alloc] at hbm
    have r1 := (cell_of_heap (hg5.block w1.heap.size (by omega) (fun e => by injection e with e; omega)) 0).trans Y4.out
    clear hm hg5 hd5 hx5 hw5 q1 q2 q3 q4 q5 q6 q7
    have HSEQ := Lib.hid (tests_seq 8 C m w5 (by decide) m4 hl5 hc5)
    have HFL := Lib.hid (fun (W : World) (hg : w5.grownBy W (some mp)) (hd : DepMap W mp t) => (HE5.out.step hg hd : DEnv _ W C mp s Aw Af cw cf t))
    refine wpIn_range_bound (gf := 32) (bnd := #[.pointer (some ⟨C, 0, none⟩)]) rfl (by decide) rfl trivial (enters_of Tryd.func32 (by kernel_rfl)) HSEQ.out kpC_t (kpC_b hl5) (fun _ => rfl)
      (fun pre W => pre.find? (t.nextB (bitsL s)) = none ∧ w5.grownBy W (some mp) ∧ DepMap W mp t)
      (fun c pre W => c = .ret ∧ ∃ x : Tp, pre.find? (t.nextB (bitsL s)) = some x ∧ BoxAt W (w.heap.size + 1) [.int .i64 x.1, .int .i64 x.2] ∧ BoxAt W (w.heap.size + 1 + 1) [.int .i64 0] ∧ Below w.heap.size w W)
      ((ownFrom_pure _ _).and ((ownFrom_grown (Nat.le_refl _)).and (ownFrom_dep (by omega))))
      (fun c _ X Y row hs hg hr => by
        obtain ⟨h1, x, h2, h3, h4, h5⟩ := hs
        exact ⟨h1, x, h2, ownFrom_box (β := Unit) _ _ (by simp) () X Y row h3 hg hr, ownFrom_box (β := Unit) _ _ (by simp) () X Y row h4 hg hr, ownFrom_below (β := Unit) (Nat.le_refl _) (by omega) () X Y row h5 hg hr⟩)
      ⟨rfl, grownR _ _, HE5.out.dep⟩
      (fun x a' W => ∃ bx, w5.heap.size ≤ bx ∧ BoxAt W bx [.int .i64 x.1, .int .i64 x.2] ∧ a' = { tmps := #[.agg #[.int .i64 t.wells, .slice Aw t.nw cw, .slice Af t.nf cf], .pointer (some ⟨w.heap.size, 0, none⟩), .pointer (some ⟨w.heap.size + 1, 0, none⟩), .pointer (some ⟨w.heap.size + 1 + 1, 0, none⟩), .pointer (some ⟨w1.heap.size, 0, none⟩), .int .i64 0, .pointer (some ⟨b6, 0, none⟩), .pointer (some ⟨bx, 0, none⟩), .tuple #[.pointer (some ⟨C, 0, none⟩), .int .i64 0], .agg #[.int .i64 t.wells, .slice Aw t.nw cw, .slice Af t.nf cf], .tuple #[.pointer (some ⟨C, 0, none⟩), .int .i64 0], .pointer (some ⟨C, 0, none⟩), .int .i64 0, .int .i64 0, .bool false, undef, undef, .pointer (some ⟨C, 0, none⟩), .pointer (some ⟨C, 0, none⟩), .pointer (some ⟨C, 0, none⟩), .pointer (some ⟨C, 3, none⟩), .int .u64 (s : Int), .int .i64 n, .pointer (some ⟨C, 0, none⟩), .func (.func 32) #[.pointer (some ⟨C, 0, none⟩)] #[], .agg #[.int .i64 x.1, .int .i64 x.2], undef, undef, undef, undef, undef, undef, undef, undef, undef, undef, undef, undef, undef, undef, undef, undef], defers := [] })
      (fun x a' _ X Y row hs hg hr => by
        obtain ⟨bx, h1, h2, h3⟩ := hs
        exact ⟨bx, h1, ownFrom_box (β := Unit) bx _ (by simp) () X Y row h2 hg hr, h3⟩) ?assign ?body ?done ?stop
    case assign =>
      rintro l pre x W K hsz ⟨hpre, hgr, hdp⟩ hK
      have HPRE := Lib.hid hpre
      have HGR := Lib.hid hgr
      have HDP := Lib.hid hdp
      clear hpre hgr hdp
      simp only [encT]
      have hbx : BoxAt (W.alloc (.cells #[.int .i64 x.1, .int .i64 x.2] 51)) W.heap.size [.int .i64 x.1, .int .i64 x.2] := BoxAt.two (by simp) (by simp [go_sem]) (by simp [go_sem])
      have HNX := Lib.hid hbx
      clear hbx
      gi_wp2
      exact hK _ _ (keeps_below (bAlloc (Below.refl _ _) _)) (kpC_of (bAlloc (Below.refl W.heap.size W) _) (by omega)) ⟨HPRE.out, grown_alloc HGR.out _, HDP.out.mono (bAlloc (Below.refl _ _) _)⟩ ⟨W.heap.size, hsz, HNX.out, rfl⟩
    case body =>
      rintro l pre x a' W hsz ⟨hpre, hgr, hdp⟩ ⟨bx, hbb, hX, rfl⟩ hlen
      have HPRE := Lib.hid hpre
      have HGR := Lib.hid hgr
      have HDP := Lib.hid hdp
      have HXX := Lib.hid hX
      have hxm := testsL_mem.1 (hlen.subset (List.mem_append_right _ (List.mem_singleton.2 rfl)))
      obtain ⟨p, q⟩ := x
      have HP := Lib.hid (show (p : Int) < t.wells by rw [HM.out]; have := hxm.1; simp at this; omega)
      have HQ := Lib.hid (show (q : Int) < t.wells by rw [HM.out]; have := hxm.2; simp at this; omega)
      obtain ⟨a, ha⟩ : ∃ a, t.afterP (p, q) (bitsL s) = a := ⟨_, rfl⟩
      have habd := afterP_bd t (p, q) (bitsL s) (by have := bitsL_len s; omega)
      rw [ha] at habd
      have e1 : IntKind.i64.wrap (1 + a) = 1 + a := IntWalk.i64_in _ (by omega)
      obtain ⟨g, hg⟩ : ∃ g, (1 + a == n) = g := ⟨_, rfl⟩
      have HNB := Lib.hid (show t.nextB (bitsL s) (p, q) = (decide (0 < n) && g) by unfold Qt.nextB; rw [ha, HN.out, hg])
      have HAF := Lib.hid (fun (W' : World) (hg : W.grownBy W' (some mp)) (hd : DepMap W' mp t) => (ha ▸ after_any HOK.out H64.out HSUB.out (fun s' hs' hsub' => enough_any HOK.out (s' + 1) s' (Nat.lt_succ_self _) (by have := H64.out; omega) hsub') p q HP.out HQ.out W' (HFL.out W' (grown_trans HGR.out hg) hd) : Calls Tryd.prog 36 #[.pointer (some ⟨C, 0, none⟩), .int .u64 (s : Int), .agg #[.int .i64 p, .int .i64 q]] W' fun e w' => e = .returned (.int .i64 a) ∧ W'.grownBy w' (some mp) ∧ DepMap w' mp t))
      have HCELL := Lib.hid (fun (W' : World) (hg : W.grownBy W' (some mp)) (k o : Nat) (hk : k < W.heap.size) (hne : k ≠ mp) => (cell_of_heap (hg.block k hk (fun e => hne (Option.some.inj e))) o : W'.cell? ⟨k, o, none⟩ = W.cell? ⟨k, o, none⟩))
      have hEW := HFL.out W hgr hdp
      have HEW := Lib.hid hEW
      have y1 := (cell_of_heap (hgr.block w1.heap.size (by omega) (fun e => by injection e with e; omega)) 0).trans r1
      have yC := hEW.court.box.cell 3 _ rfl
      have yD := hEW.court.box.lt
      have hnC := HE5.out.ne
      have HX6 := Lib.hid (HX5.out.kept hgr (fun e => by injection e with e; have := HB6.out; omega))
      have h6m : b6 ≠ mp := by have := HB6.out; omega
      clear hpre hgr hdp hX hlen hxm ha habd hEW
      by_cases hn0 : 0 < n
      · have g0 : decide (n > 0) = true := decide_eq_true hn0
        have g1 : decide (0 < n) = true := decide_eq_true hn0
        gi_wp2
        refine wpIn_region_cls (openRound _ l) 14 [.int .i64 n, .bool true, .bool true, .pointer (some ⟨C, 0, none⟩), .pointer (some ⟨C, 0, none⟩), .pointer (some ⟨C, 0, none⟩), .pointer (some ⟨C, 3, none⟩), .int .u64 (s : Int), .agg #[.int .i64 p, .int .i64 q], .int .i64 a, .int .i64 (1 + a), .int .i64 n, .bool g, .bool g] (fun W' => W.grownBy W' (some mp) ∧ DepMap W' mp t) (by kernel_rfl) (by kernel_rfl) rfl ⟨grown_below (Below.refl _ _).drew, HDP.out.mono (Below.refl _ _).drew⟩ ?_
        iterate 14
          refine wpCls_on rfl (fun W' hw' => ?_) ?_
          · obtain ⟨hg', hd'⟩ : W.grownBy W' (some mp) ∧ DepMap W' mp t := hw'
            have g2 := (HX6.out.kept hg' (fun e => by injection e with e; omega)).cell
            have g3 := (HCELL.out W' hg' w1.heap.size 0 (by omega) (by omega)).trans y1
            have g4 := (HCELL.out W' hg' C 3 yD hnC).trans yC
            have gx := (HCELL.out W' hg' bx 0 HXX.out.lt (by omega)).trans (HXX.out.cell 0 _ rfl)
            have gy := (HCELL.out W' hg' bx 1 HXX.out.lt (by omega)).trans (HXX.out.cell 1 _ rfl)
            have HG' := Lib.hid hg'
            have HD' := Lib.hid hd'
            clear y1 yC
            go_simp
            all_goals
              refine (HAF.out W' HG'.out HD'.out).mono ?_
              rintro e w'' ⟨rfl, h1, h2⟩
              exact ⟨rfl, grown_trans HG'.out h1, h2⟩
          try simp only [Act.put, List.setIfInBounds_toArray, List.set_cons_succ, List.set_cons_zero]
        refine wpCls_nil ?_
        intro W' hw'
        obtain ⟨hg', hd'⟩ : W.grownBy W' (some mp) ∧ DepMap W' mp t := hw'
        have gC := HCELL.out W' hg' C 0 yD hnC
        have gx := (HCELL.out W' hg' bx 0 HXX.out.lt (by omega)).trans (HXX.out.cell 0 _ rfl)
        have gy := (HCELL.out W' hg' bx 1 HXX.out.lt (by omega)).trans (HXX.out.cell 1 _ rfl)
        have HG' := Lib.hid hg'
        have HD' := Lib.hid hd'
        have HGC := Lib.hid gC
        have HE' := Lib.hid (HEW.out.step hg' hd')
        have zW := hg'.size
        have z0 := HE'.out.below
        have t0 := (z0.cell (p := ⟨w.heap.size + 1, 0, none⟩) (by simp <;> omega)).trans (show _ = some (.int .i64 0) by simp [go_sem])
        have t1 := (z0.cell (p := ⟨w.heap.size + 1, 1, none⟩) (by simp <;> omega)).trans (show _ = some (.int .i64 0) by simp [go_sem])
        have t2 := (z0.cell (p := ⟨w.heap.size + 1 + 1, 0, none⟩) (by simp)).trans (show _ = some (.int .i64 0) by simp [go_sem])
        have t3 := (z0.frozen (p := ⟨w.heap.size + 1, 0, none⟩) (by simp <;> omega)).trans (show _ = false by simp [go_sem])
        have t4 := (z0.frozen (p := ⟨w.heap.size + 1, 1, none⟩) (by simp <;> omega)).trans (show _ = false by simp [go_sem])
        have t5 := (z0.frozen (p := ⟨w.heap.size + 1 + 1, 0, none⟩) (by simp)).trans (show _ = false by simp [go_sem])
        simp only [List.drop_succ_cons, List.drop_zero]
        clear hg' hd' gC y1 yC z0
        cases g
        · have HNO := Lib.hid (find_snoc_none HPRE.out (show t.nextB (bitsL s) (p, q) = false by rw [HNB.out]; simp))
          gi_wp2
          exact ⟨KeepsFrom.of_grownBy HG'.out (fun j e => by injection e with e; omega), HGC.out, HNO.out, grown_trans HGR.out HG'.out, HD'.out⟩
        · have HYES := Lib.hid (find_snoc_some HPRE.out (show t.nextB (bitsL s) (p, q) = true by rw [HNB.out]; simp [hn0]))
          have HNS := Lib.hid (next_set (x := .int .i64 p) (y := .int .i64 q) (z := .int .i64 0) (bTrans HB.out HE'.out.below) (show w.heap.size ≤ w.heap.size + 1 by omega) (show w.heap.size + 1 + 1 < W'.heap.size by omega) t0 t1 t2 w5.heap.size)
          gi_wp2
          exact ⟨(KeepsFrom.of_grownBy HG'.out (fun j e => by injection e with e; omega)).trans HNS.out.2.2.2, rfl, (p, q), HYES.out, HNS.out.1, HNS.out.2.1, HNS.out.2.2.1⟩
      · have g0 : decide (n > 0) = false := decide_eq_false hn0
        have g1 : decide (0 < n) = false := decide_eq_false hn0
        gi_wp2
        refine wpIn_region_cls (openRound _ l) 14 [.int .i64 n, .bool false, .bool false, undef, undef, undef, undef, undef, undef, undef, undef, undef, undef, .bool false] (fun W' => W.grownBy W' (some mp) ∧ DepMap W' mp t) (by kernel_rfl) (by kernel_rfl) rfl ⟨grown_below (Below.refl _ _).drew, HDP.out.mono (Below.refl _ _).drew⟩ ?_
        iterate 14
          first
          | (refine wpCls_off rfl ?_
             try simp only [Act.put, List.setIfInBounds_toArray, List.set_cons_succ, List.set_cons_zero])
          | (refine wpCls_on rfl (fun W' hw' => ?_) ?_
             · obtain ⟨hg', hd'⟩ : W.grownBy W' (some mp) ∧ DepMap W' mp t := hw'
               have g2 := (HX6.out.kept hg' (fun e => by injection e with e; omega)).cell
               have HG' := Lib.hid hg'
               have HD' := Lib.hid hd'
               clear y1 yC hg' hd'
               go_simp
               exact ⟨HG'.out, HD'.out⟩
             try simp only [Act.put, List.setIfInBounds_toArray, List.set_cons_succ, List.set_cons_zero])
        refine wpCls_nil ?_
        intro W' hw'
        obtain ⟨hg', hd'⟩ : W.grownBy W' (some mp) ∧ DepMap W' mp t := hw'
        have gC := HCELL.out W' hg' C 0 yD hnC
        have HG' := Lib.hid hg'
        have HD' := Lib.hid hd'
        have HGC := Lib.hid gC
        have zW := hg'.size
        have HNO := Lib.hid (find_snoc_none HPRE.out (show t.nextB (bitsL s) (p, q) = false by rw [HNB.out]; simp [g1]))
        simp only [List.drop_succ_cons, List.drop_zero]
        clear hg' hd' gC y1 yC
        gi_wp2
        exact ⟨KeepsFrom.of_grownBy HG'.out (fun j e => by injection e with e; omega), HGC.out, HNO.out, grown_trans HGR.out HG'.out, HD'.out⟩
    case done =>
      rintro D xs W hD rfl ⟨hpre, hgr, hdp⟩ hK
      have HNO := Lib.hid hpre
      have HNE := Lib.hid (show t.nextP (bitsL s) = none by rw [nextP_find, HTE.out]; exact hpre)
      have HE' := Lib.hid (HFL.out W hgr hdp)
      have zW := hgr.size
      have z0 := HE'.out.below
      have t0 := (z0.cell (p := ⟨w.heap.size + 1, 0, none⟩) (by simp <;> omega)).trans (show _ = some (.int .i64 0) by simp [go_sem])
      have t1 := (z0.cell (p := ⟨w.heap.size + 1, 1, none⟩) (by simp <;> omega)).trans (show _ = some (.int .i64 0) by simp [go_sem])
      have t2 := (z0.cell (p := ⟨w.heap.size + 1 + 1, 0, none⟩) (by simp)).trans (show _ = some (.int .i64 0) by simp [go_sem])
      have t3 := (z0.frozen (p := ⟨w.heap.size + 1, 0, none⟩) (by simp <;> omega)).trans (show _ = false by simp [go_sem])
      have t4 := (z0.frozen (p := ⟨w.heap.size + 1, 1, none⟩) (by simp <;> omega)).trans (show _ = false by simp [go_sem])
      have t5 := (z0.frozen (p := ⟨w.heap.size + 1 + 1, 0, none⟩) (by simp)).trans (show _ = false by simp [go_sem])
      have HNS := Lib.hid (next_set (x := .int .i64 0) (y := .int .i64 0) (z := .int .i64 3) (bTrans HB.out HE'.out.below) (show w.heap.size ≤ w.heap.size + 1 by omega) (show w.heap.size + 1 + 1 < W.heap.size by omega) t0 t1 t2 0)
      have hK' := HNS.out.2.2.2.same D _ (Nat.zero_le _) hK rfl
      have HK := Lib.hid hK'
      clear hpre hgr hdp z0 hK hK'
      gi_wp2
      refine ⟨by simp, .inl ⟨_, _, rfl, run_takeDeferred HK.out, ?_⟩⟩
      have c0 := cell_kept (HNS.out.1.cell 0 _ rfl) (grownBy_putObj' _ D (.deferred none)) (fun r e => by cases e; exact ⟨_, HK.out, rfl⟩)
      have c1 := cell_kept (HNS.out.1.cell 1 _ rfl) (grownBy_putObj' _ D (.deferred none)) (fun r e => by cases e; exact ⟨_, HK.out, rfl⟩)
      have c2 := cell_kept (HNS.out.2.1.cell 0 _ rfl) (grownBy_putObj' _ D (.deferred none)) (fun r e => by cases e; exact ⟨_, HK.out, rfl⟩)
      refine ⟨.tuple #[.agg #[.int .i64 0, .int .i64 0], .int .i64 3], ?_, ?_, below_put HNS.out.2.2.1 HNS.out.2.2.1.size (by omega) _⟩
      · simp [results, Tryd.results15, go_sem, c0, c1, c2]
      · unfold Qt.nextOut Qt.nextErr
        rw [if_pos HKE.out, if_pos HKE.out, ← HBM.out, HNE.out]
        rfl
    case stop =>
      rintro D c pre W hD hpre ⟨rfl, x, hf, hx1, hx2, hbel⟩ hK
      have HNE := Lib.hid (show t.nextP (bitsL s) = some x by rw [nextP_find, HTE.out]; exact find_prefix hpre hf)
      have HBL := Lib.hid hbel
      have c0 := cell_kept (hx1.cell 0 _ rfl) (grownBy_putObj' _ D (.deferred none)) (fun r e => by cases e; exact ⟨_, hK, rfl⟩)
      have c1 := cell_kept (hx1.cell 1 _ rfl) (grownBy_putObj' _ D (.deferred none)) (fun r e => by cases e; exact ⟨_, hK, rfl⟩)
      have c2 := cell_kept (hx2.cell 0 _ rfl) (grownBy_putObj' _ D (.deferred none)) (fun r e => by cases e; exact ⟨_, hK, rfl⟩)
      have HK := Lib.hid hK
      clear hbel hf hx1 hx2 hpre hK
      gi_wp2
      refine ⟨by simp, .inl ⟨_, _, rfl, run_takeDeferred HK.out, ?_⟩⟩
      refine ⟨.tuple #[.agg #[.int .i64 x.1, .int .i64 x.2], .int .i64 0], ?_, ?_, below_put HBL.out HBL.out.size (by omega) _⟩
      · simp [results, Tryd.results15, go_sem, c0, c1, c2]
      · unfold Qt.nextOut Qt.nextErr
        rw [if_pos HKE.out, if_pos HKE.out, ← HBM.out, HNE.out]
        rfl
  · have HDO := Lib.hid (show t.nextOut = (0, 0) by unfold Qt.nextOut; rw [if_neg he])
    have HDE := Lib.hid (show t.nextErr = t.knowErr true by unfold Qt.nextErr; rw [if_neg he])
    obtain ⟨er, her⟩ : ∃ er, t.knowErr true = er := ⟨_, rfl⟩
    have HKE := Lib.hid her
    rw [her] at he
    have HNZ := Lib.hid he
    have hd1 : decide (er = 0) = false := by simp [he]
    have hd2 : (er == 0) = false := by simp [he]
    have hd3 : (er != 0) = true := by simp [he]
    clear he her
    gi_wp2
    refine ⟨trivial, (callsIn_wide.2 (openQ_any _ _ _ _ t _ _ hs HT.out)).mono ?_⟩
    rintro e w1 ⟨⟨hk, _⟩, hb1⟩
    rw [HKE.out] at hk
    obtain rfl := hk HNZ.out
    have HB1 := Lib.hid hb1
    have z0 := hb1
    have t0 := (z0.cell (p := ⟨w.heap.size + 1, 0, none⟩) (by simp <;> omega)).trans (show _ = some (.int .i64 0) by simp [go_sem])
    have t1 := (z0.cell (p := ⟨w.heap.size + 1, 1, none⟩) (by simp <;> omega)).trans (show _ = some (.int .i64 0) by simp [go_sem])
    have t2 := (z0.cell (p := ⟨w.heap.size + 1 + 1, 0, none⟩) (by simp)).trans (show _ = some (.int .i64 0) by simp [go_sem])
    have t3 := (z0.frozen (p := ⟨w.heap.size + 1, 0, none⟩) (by simp <;> omega)).trans (show _ = false by simp [go_sem])
    have t4 := (z0.frozen (p := ⟨w.heap.size + 1, 1, none⟩) (by simp <;> omega)).trans (show _ = false by simp [go_sem])
    have t5 := (z0.frozen (p := ⟨w.heap.size + 1 + 1, 0, none⟩) (by simp)).trans (show _ = false by simp [go_sem])
    have zz := z0.size
    simp only [World.size_alloc] at zz
    have hba := bAlloc (Below.refl w1.heap.size w1) (.cells #[.pointer none] 74)
    have HBA := Lib.hid hba
    have u1 : w.heap.size + 1 < w1.heap.size := by omega
    have u2 : w.heap.size + 1 + 1 < w1.heap.size := by omega
    have HNS := Lib.hid (next_set (x := .int .i64 0) (y := .int .i64 0) (z := .int .i64 er) (bTrans HB.out HB1.out) (show w.heap.size ≤ w.heap.size + 1 by omega) u2 t0 t1 t2 0)
    clear hk hb1 z0 hba
    gi_wp2
    have hbw := HNS.out.2.2.1
    have HBW := Lib.hid (bAlloc hbw (.cells #[.pointer none] 74))
    have c0 := (bAlloc (Below.refl _ _) (.cells #[.pointer none] 74)).cell (p := ⟨w.heap.size + 1, 0, none⟩) HNS.out.1.lt |>.trans (HNS.out.1.cell 0 _ rfl)
    have c1 := (bAlloc (Below.refl _ _) (.cells #[.pointer none] 74)).cell (p := ⟨w.heap.size + 1, 1, none⟩) HNS.out.1.lt |>.trans (HNS.out.1.cell 1 _ rfl)
    have c2 := (bAlloc (Below.refl _ _) (.cells #[.pointer none] 74)).cell (p := ⟨w.heap.size + 1 + 1, 0, none⟩) HNS.out.2.1.lt |>.trans (HNS.out.2.1.cell 0 _ rfl)
    refine ⟨.tuple #[.agg #[.int .i64 0, .int .i64 0], .int .i64 er], ?_, ?_, HBW.out⟩
    · simp [results, Tryd.results15, go_sem, c0, c1, c2]
    · rw [HDO.out, HDE.out, HKE.out]
      rfl
end Go.Proofs.YthnojgdckkdcgaaDoor

namespace Go.Proofs.YthnojgdckkdcgaaDoor
open Go.RowKit Go.Sort Go.Shelf
end Go.Proofs.YthnojgdckkdcgaaDoor

namespace Go.Proofs.YthnojgdckkdcgaaDoor
open Go.RowKit Go.Sort
/-! ### Tests in order -/
/-! ### The fewest tests -/
/-! ### The next test -/
/-! ### The tests that decide -/
end Go.Proofs.YthnojgdckkdcgaaDoor

namespace Go.Proofs.YthnojgdckkdcgaaDoor
open Go.RowKit Go.Sort
/-! ### Who is blamed -/
end Go.Proofs.YthnojgdckkdcgaaDoor

namespace Go.Proofs.YthnojgdckkdcgaaDoor
open Go.RowKit Go.Sort
theorem factL_snoc (t : Qt) (f : Fact) : factL (t.add f).fact (t.nf + 1) = factL t.fact t.nf ++ [.int .i64 f.from_, .int .i64 f.many, .int .i64 f.to_, .int .i64 f.low, .int .i64 f.high] := by
  unfold factL
  show catL _ t.nf ++ _ = _
  have e1 : (t.add f).fact t.nf = f := if_neg (Nat.lt_irrefl _)
  congr 1
  · exact catL_congr t.nf fun i hi => by rw [show (t.add f).fact i = t.fact i from if_pos hi]
  · simp only [e1]
theorem owns_kept {l : List TypeId} {w w' : World} {base : Nat} {e : TypeId} {size n : Nat} {v : Value} {xs : List Value} (h : w.ownsRow base e size v n xs) (hk : Kept l w w') (he : e ∈ l) : w'.ownsRow base e size v n xs :=
  ⟨h.1, h.2.imp id fun ⟨g, cap, cur, h1, h2, h3, h4⟩ => ⟨g, cap, cur, h1, h2, (hk.2 g _ _ _ h3 he).trans h3, h4⟩⟩
set_option maxHeartbeats 4000000 in
set_option maxRecDepth 100000 in
theorem told5_any (Aw Af : Option Addr) (cw cf : Nat) (t : Qt) (f : Fact) (w : World) (hf : t.Fits) (hT : QAt w Aw Af t) :
    Calls Tryd.prog 37 #[.agg #[.int .i64 t.wells, .slice Aw t.nw cw, .slice Af t.nf cf], .agg #[.int .i64 f.from_, .int .i64 f.many, .int .i64 f.to_, .int .i64 f.low, .int .i64 f.high]] w fun e w' => CopyOut w' w.heap.size (t.add f) e ∧ Below w.heap.size w w' := by
  have hb2 := bAlloc (bAlloc (bAlloc (Below.refl w.heap.size w) (.cells #[.int .i64 t.wells, .slice Aw t.nw cw, .slice Af t.nf cf] 39)) (.cells #[.int .i64 f.from_, .int .i64 f.many, .int .i64 f.to_, .int .i64 f.low, .int .i64 f.high] 63)) (.cells #[.int .i64 0, .slice none 0 0, .slice none 0 0] 39)
  have HT := Lib.hid (hT.mono hb2)
  have HB := Lib.hid hb2
  have HF := Lib.hid hf
  have HTR := Lib.hid (TBox.new ((w.alloc (.cells #[.int .i64 t.wells, .slice Aw t.nw cw, .slice Af t.nf cf] 39)).alloc (.cells #[.int .i64 f.from_, .int .i64 f.many, .int .i64 f.to_, .int .i64 f.low, .int .i64 f.high] 63)) #[.int .i64 0, .slice none 0 0, .slice none 0 0] 39)
  clear hT hb2 hf
  obtain ⟨i0, hi, iz0, iz1, iz2⟩ := info_parts infoFact
  go_enter Tryd.func37, Tryd.ntmps37
  go_wp2_with fail
  refine (copy5_any _ _ _ _ t _ HF.out HT.out).mono ?_
  rintro e w1 ⟨⟨vW, vF, rfl, hc⟩, hb1⟩
  obtain ⟨A1, c1, A2, c2, rfl, rfl, _⟩ := hc.qat
  have HC := Lib.hid hc
  have HB1 := Lib.hid hb1
  obtain ⟨bc1, bf1⟩ := bcell hb1
  have hz1 := hb1.size
  simp only [World.size_alloc] at hz1
  have hy1 : w.heap.size < w1.heap.size := by omega
  have hy2 : w.heap.size + 1 < w1.heap.size := by omega
  have hy3 : w.heap.size + 1 + 1 < w1.heap.size := by omega
  have HX1 := Lib.hid (TBox.new w1 #[.int .i64 t.wells, .slice A1 t.nw c1, .slice A2 t.nf c2] 39)
  have HN := Lib.hid (show (t.nf + 1) * 40 ≤ 140737488355328 by have := HF.out.2.1; omega)
  have hbase := HB1.out.size
  simp only [World.size_alloc] at hbase
  clear hc hb1
  have HO2 := Lib.hid (show ((w1.alloc (.cells #[.int .i64 t.wells, .slice A1 t.nw c1, .slice A2 t.nf c2] 39)).alloc (.cells #[.int .i64 f.from_, .int .i64 f.many, .int .i64 f.to_, .int .i64 f.low, .int .i64 f.high] 63)).ownsRow (w.heap.size + 1 + 1 + 1) 63 5 (.slice A2 t.nf c2) t.nf (factL t.fact t.nf) by
    have := (HC.out.facts.alloc (.cells #[.int .i64 t.wells, .slice A1 t.nw c1, .slice A2 t.nf c2] 39)).alloc (.cells #[.int .i64 f.from_, .int .i64 f.many, .int .i64 f.to_, .int .i64 f.low, .int .i64 f.high] 63)
    simpa using this)
  have HB2 := Lib.hid (show Below (w.heap.size + 1 + 1 + 1) (((w.alloc (.cells #[.int .i64 t.wells, .slice Aw t.nw cw, .slice Af t.nf cf] 39)).alloc (.cells #[.int .i64 f.from_, .int .i64 f.many, .int .i64 f.to_, .int .i64 f.low, .int .i64 f.high] 63)).alloc (.cells #[.int .i64 0, .slice none 0 0, .slice none 0 0] 39)) ((w1.alloc (.cells #[.int .i64 t.wells, .slice A1 t.nw c1, .slice A2 t.nf c2] 39)).alloc (.cells #[.int .i64 f.from_, .int .i64 f.many, .int .i64 f.to_, .int .i64 f.low, .int .i64 f.high] 63)) by
    have := bAlloc (bAlloc HB1.out (.cells #[.int .i64 t.wells, .slice A1 t.nw c1, .slice A2 t.nf c2] 39)) (.cells #[.int .i64 f.from_, .int .i64 f.many, .int .i64 f.to_, .int .i64 f.low, .int .i64 f.high] 63)
    simpa using this)
  go_wp2_with (at_builtin; refine wpList_append_own _ rfl (Operand.tmp 9) (Operand.tmp 11) 37 rfl (w.heap.size + 1 + 1 + 1) 63 i0 (.agg #[.int .i64 0, .int .i64 0, .int .i64 0, .int .i64 0, .int .i64 0]) 5 40 Tryd.underlying37 hi iz0 iz1 iz2 rfl (by decide) _ t.nf (factL t.fact t.nf) rfl HO2.out ⟨w1.heap.size + 1, 0, none⟩ 1 1 [.int .i64 f.from_, .int .i64 f.many, .int .i64 f.to_, .int .i64 f.low, .int .i64 f.high] rfl rfl ?c1 ?c2 ?c3 HN.out ?c4 ?_)
  case c1 =>
    intro j u hj
    have hc := cell_of_row _ (w1.heap.size + 1) j _ _ _ (show ((w1.alloc (.cells #[.int .i64 t.wells, .slice A1 t.nw c1, .slice A2 t.nf c2] 39)).alloc (.cells #[.int .i64 f.from_, .int .i64 f.many, .int .i64 f.to_, .int .i64 f.low, .int .i64 f.high] 63)).heap[w1.heap.size + 1]? = some (Obj.cells #[.int .i64 f.from_, .int .i64 f.many, .int .i64 f.to_, .int .i64 f.low, .int .i64 f.high] 63 (0, 0)) by have := heap_alloc_new (w1.alloc (.cells #[.int .i64 t.wells, .slice A1 t.nw c1, .slice A2 t.nf c2] 39)) (.cells #[.int .i64 f.from_, .int .i64 f.many, .int .i64 f.to_, .int .i64 f.low, .int .i64 f.high] 63); simpa using this)
    rw [show (⟨w1.heap.size + 1, 0, none⟩ : Addr).add j = ⟨w1.heap.size + 1, j, none⟩ from by unfold Addr.add; split <;> simp_all, hc]
    simpa using hj
  case c2 =>
    intro u hu
    simp only [List.mem_cons, List.not_mem_nil, or_false] at hu
    rcases hu with rfl | rfl | rfl | rfl | rfl <;> rfl
  case c3 => unfold maxLen; have := HN.out; omega
  case c4 => simp <;> omega
  intro v' w4 hown4 hg4 _
  obtain ⟨A4, c4, rfl, _⟩ := RowK.own hown4
  have hnb : some w1.heap.size ≠ (Value.slice A2 t.nf c2).ownBlock := fun e => by have := HC.out.facts.lt _ e.symm; omega
  have HX4 := Lib.hid ((HX1.out.mono (bAlloc (Below.refl _ _) (.cells #[.int .i64 f.from_, .int .i64 f.many, .int .i64 f.to_, .int .i64 f.low, .int .i64 f.high] 63))).grown hg4 hnb)
  have hB4 : Below (w.heap.size + 1 + 1 + 1) (((w.alloc (.cells #[.int .i64 t.wells, .slice Aw t.nw cw, .slice Af t.nf cf] 39)).alloc (.cells #[.int .i64 f.from_, .int .i64 f.many, .int .i64 f.to_, .int .i64 f.low, .int .i64 f.high] 63)).alloc (.cells #[.int .i64 0, .slice none 0 0, .slice none 0 0] 39)) w4 := HB2.out.grown hg4 (by simp <;> omega) (fun k hk => (HO2.out.lt k hk).1)
  have HB4 := Lib.hid hB4
  have hTR : TBox w4 (w.heap.size + 1 + 1) 39 #[.int .i64 0, .slice none 0 0, .slice none 0 0] := (hB4.block (w.heap.size + 1 + 1) (by omega)).trans (by have := HTR.out; simpa [TBox] using this)
  have HTR4 := Lib.hid hTR
  have hk4 : Kept [3, 23, 60] ((w1.alloc (.cells #[.int .i64 t.wells, .slice A1 t.nw c1, .slice A2 t.nf c2] 39)).alloc (.cells #[.int .i64 f.from_, .int .i64 f.many, .int .i64 f.to_, .int .i64 f.low, .int .i64 f.high] 63)) w4 := Kept.of_own hg4 HO2.out (by decide)
  have HK4 := Lib.hid hk4
  have HG4 := Lib.hid hg4
  have HO4 := Lib.hid hown4
  have hlt4 : w1.heap.size < w4.heap.size := HX4.out.lt
  have r0 : w4.cell? ⟨w1.heap.size, 0, none⟩ = some (.int .i64 t.wells) := HX4.out.cell 0
  have r1 : w4.cell? ⟨w1.heap.size, 1, none⟩ = some (.slice A1 t.nw c1) := HX4.out.cell 1
  have r2 : w4.cell? ⟨w1.heap.size, 2, none⟩ = some (.slice A2 t.nf c2) := HX4.out.cell 2
  have r3 := HX4.out.frozen 2
  have s0 : w4.cell? ⟨w.heap.size + 1 + 1, 0, none⟩ = some (.int .i64 0) := hTR.cell 0
  have s1 : w4.cell? ⟨w.heap.size + 1 + 1, 1, none⟩ = some (.slice none 0 0) := hTR.cell 1
  have s2 : w4.cell? ⟨w.heap.size + 1 + 1, 2, none⟩ = some (.slice none 0 0) := hTR.cell 2
  have t0 := hTR.frozen 0
  have t1 := hTR.frozen 1
  have t2 := hTR.frozen 2
  have hy4 : w.heap.size + 1 + 1 < w4.heap.size := hTR.lt
  clear hTR hown4 hg4 hnb hB4 hk4 bc1 bf1
  go_wp2_with fail
  have hne : w1.heap.size ≠ w.heap.size + 1 + 1 := by omega
  have R5 := HTR4.out.other hne 2 (.slice A4 (t.nf + 1) c4)
  have R6 := R5.set 0 (.int .i64 t.wells)
  have R7 := R6.set 1 (.slice A1 t.nw c1)
  have hkS := (((Kept.set (l := [3, 23, 60]) HX4.out (by decide) 2 (.slice A4 (t.nf + 1) c4)).trans (Kept.set R5 (by decide) 0 (.int .i64 t.wells))).trans (Kept.set R6 (by decide) 1 (.slice A1 t.nw c1))).trans (Kept.set R7 (by decide) 2 (.slice A4 (t.nf + 1) c4))
  obtain ⟨us, hu1, hu2⟩ := HC.out.worlds
  have hk0 : Kept [3, 23, 60] w1 _ := ((Kept.of_below (bAlloc (bAlloc (Below.refl w1.heap.size w1) (.cells #[.int .i64 t.wells, .slice A1 t.nw c1, .slice A2 t.nf c2] 39)) (.cells #[.int .i64 f.from_, .int .i64 f.many, .int .i64 f.to_, .int .i64 f.low, .int .i64 f.high] 63))).trans HK4.out).trans hkS
  refine bodyPost_ret (v := .agg #[.int .i64 t.wells, .slice A1 t.nw c1, .slice A4 (t.nf + 1) c4]) (by simp [results, Tryd.results37, go_sem, *]) rfl ⟨⟨_, _, rfl, ⟨us, ?_, hu2.kept hk0 (by simp) (by simp)⟩, ?_⟩, ?_⟩
  · exact owns_lower (owns_kept hu1 hk0 (by simp)) (by simp <;> omega)
  · show World.ownsRow _ w.heap.size 63 5 (.slice A4 (t.nf + 1) c4) (t.nf + 1) (factL (t.add f).fact (t.nf + 1))
    rw [factL_snoc]
    exact owns_lower (owns_setT (owns_setT (owns_setT (owns_setT HO4.out HX4.out (by decide) 2 _) R5 (by decide) 0 _) R6 (by decide) 1 _) R7 (by decide) 2 _) (by omega)
  · have h0 : Below w.heap.size w w4 := bTrans HB.out (by have := HB4.out; simpa using this)
    exact Below.setCell (p := ⟨w.heap.size + 1 + 1, 2, none⟩) (Below.setCell (p := ⟨w.heap.size + 1 + 1, 1, none⟩) (Below.setCell (p := ⟨w.heap.size + 1 + 1, 0, none⟩) (Below.setCell (p := ⟨w1.heap.size, 2, none⟩) h0 (by show w.heap.size ≤ w1.heap.size; omega) _) (by show w.heap.size ≤ w.heap.size + 1 + 1; omega) _) (by show w.heap.size ≤ w.heap.size + 1 + 1; omega) _) (by show w.heap.size ≤ w.heap.size + 1 + 1; omega) _
end Go.Proofs.YthnojgdckkdcgaaDoor

namespace Go.Proofs.YthnojgdckkdcgaaDoor
open Go.RowKit Go.Sort
section
variable {w : World} {b : Nat} {t : TypeId}
theorem TBox.c2 {x y : Value} (h : TBox w b t #[x, y]) : w.cell? ⟨b, 0, none⟩ = some x ∧ w.cell? ⟨b, 1, none⟩ = some y ∧ b < w.heap.size := ⟨h.cell 0, h.cell 1, h.lt⟩
theorem TBox.c3 {x y z : Value} (h : TBox w b t #[x, y, z]) : w.cell? ⟨b, 0, none⟩ = some x ∧ w.cell? ⟨b, 1, none⟩ = some y ∧ w.cell? ⟨b, 2, none⟩ = some z ∧ b < w.heap.size := ⟨h.cell 0, h.cell 1, h.cell 2, h.lt⟩
end
theorem wpList_skip {P : Program} {ops : Array Oper} {Q : Exit → Act → World → Prop} {rest : List Oper} {o : Oper} {a : Act} {w w'' : World} (hg : o.guard = none) (hd : o.dst = none) (hrun : (execOp a.eval o).run P w = .ok .skip w'') (h : wpList P ops Q rest a w'') : wpList P ops Q (o :: rest) a w := by
  simp only [wpList]
  have hw : Region.wanted o (yielded ops a.tmps) = true := by unfold Region.wanted; rw [hg]
  rw [if_pos hw]
  refine .inl ?_
  unfold Oper.wp
  rw [hrun]
  simp only [Oper.upon]
  rw [hd]
  exact h
def Upto (w0 w : World) : Prop := Below w0.heap.size w0 w
theorem Upto.mono {w0 w w' : World} (h : Upto w0 w) (hb : Below w.heap.size w w') : Upto w0 w' := bTrans h hb
end Go.Proofs.YthnojgdckkdcgaaDoor

namespace Go.Proofs.YthnojgdckkdcgaaDoor
open Go.RowKit Go.Sort
structure Pnt where
  lo : Int
  hi : Int
  cost : Int
structure Dk where
  np : Nat
  pt : Nat → Pnt
  no : Nat
  odd : Nat → Int
def PntsAt (w : World) (A : Option Addr) (n : Nat) (f : Nat → Pnt) : Prop := n = 0 ∨ ∃ b o, A = some ⟨b, o, none⟩ ∧ b < w.heap.size ∧ ∀ i, i < n → w.cell? ⟨b, o + i * 3, none⟩ = some (.int .i64 (f i).lo) ∧ w.cell? ⟨b, o + i * 3 + 1, none⟩ = some (.int .i64 (f i).hi) ∧ w.cell? ⟨b, o + i * 3 + 2, none⟩ = some (.int .i64 (f i).cost)
theorem PntsAt.mono {w w' : World} {A : Option Addr} {n : Nat} {f : Nat → Pnt} (h : PntsAt w A n f) (hb : Below w.heap.size w w') : PntsAt w' A n f := by
  rcases h with h | ⟨b, o, rfl, hlt, hc⟩
  · exact .inl h
  · exact .inr ⟨b, o, rfl, Nat.lt_of_lt_of_le hlt hb.size, fun i hi => ⟨(hb.cell (p := ⟨b, _, none⟩) hlt).trans (hc i hi).1, (hb.cell (p := ⟨b, _, none⟩) hlt).trans (hc i hi).2.1, (hb.cell (p := ⟨b, _, none⟩) hlt).trans (hc i hi).2.2⟩⟩
structure DAt (w : World) (Ap Ao : Option Addr) (d : Dk) : Prop where
  pts : PntsAt w Ap d.np d.pt
  odds : IntsAt w Ao d.no d.odd
theorem DAt.mono {w w' : World} {Ap Ao : Option Addr} {d : Dk} (h : DAt w Ap Ao d) (hb : Below w.heap.size w w') : DAt w' Ap Ao d := ⟨h.pts.mono hb, h.odds.mono hb⟩
structure Dk.Ok (d : Dk) : Prop where
  no : d.no ≤ 7
  np : d.np = d.no + 1
  odd : ∀ i, i < d.no → 1 ≤ d.odd i ∧ d.odd i ≤ 9
  pt : ∀ i, i < d.np → 0 ≤ (d.pt i).lo ∧ (d.pt i).lo ≤ (d.pt i).hi ∧ (d.pt i).hi ≤ 99 ∧ 0 ≤ (d.pt i).cost ∧ (d.pt i).cost ≤ 20
structure Dk.Fits (d : Dk) : Prop where
  np : d.np * 24 ≤ 140737488351232
  no : d.no * 8 ≤ 140737488351232
/-! ### the table -/
abbrev Tab := Nat → Nat → Int × Int
def upd2 (F : Tab) (f t : Nat) (v : Int × Int) : Tab := fun a b => if a = f ∧ b = t then v else F a b
def tabPt (cost : Nat → Int) (F : Tab) (f t : Nat) : Nat → Int × Int
  | 0 => F f t
  | k + 1 => let c := tabPt cost F f t k; let p := f + 1 + k; let n := cost p + max (F f p).1 (F p t).1; if c.2 = 0 ∨ n < c.1 then (n, (p : Int)) else c
def tabFrom (cost : Nat → Int) (m : Nat) (F : Tab) : Nat → Tab
  | 0 => F
  | k + 1 => let G := tabFrom cost m F k; upd2 G k (k + m) (tabPt cost G k (k + m) (m - 1))
def tabMany (cost : Nat → Int) (n : Nat) : Nat → Tab
  | 0 => fun _ _ => (0, 0)
  | j + 1 => tabFrom cost (j + 2) (tabMany cost n j) (n + 1 - (j + 2))
/-- all of them -/
def tabAll (cost : Nat → Int) (n : Nat) : Tab := tabMany cost n (n - 1)
def Dk.cost (d : Dk) (i : Nat) : Int := (d.pt i).cost
/-- a table in memory -/
def TabC (w : World) (b : Nat) (F : Tab) : Prop := ∃ cs, TBox w b 96 cs ∧ ∀ f t, f < 8 → t < 8 → cs[f * 16 + t * 2]? = some (.int .i64 (F f t).1) ∧ cs[f * 16 + t * 2 + 1]? = some (.int .i64 (F f t).2)
theorem TabC.mono {w w' : World} {b : Nat} {F : Tab} (h : TabC w b F) (hb : Below w.heap.size w w') : TabC w' b F := by
  obtain ⟨cs, h1, h2⟩ := h
  exact ⟨cs, h1.mono hb, h2⟩
theorem TabC.lt {w : World} {b : Nat} {F : Tab} (h : TabC w b F) : b < w.heap.size := by
  obtain ⟨cs, h1, _⟩ := h
  exact h1.lt
theorem TabC.cell {w : World} {b : Nat} {F : Tab} (h : TabC w b F) {f t : Nat} (hf : f < 8) (ht : t < 8) : w.cell? ⟨b, f * 16 + t * 2, none⟩ = some (.int .i64 (F f t).1) ∧ w.cell? ⟨b, f * 16 + t * 2 + 1, none⟩ = some (.int .i64 (F f t).2) ∧ w.frozen? ⟨b, f * 16 + t * 2, none⟩ = false ∧ w.frozen? ⟨b, f * 16 + t * 2 + 1, none⟩ = false := by
  obtain ⟨cs, h1, h2⟩ := h
  exact ⟨(h1.cell _).trans (h2 f t hf ht).1, (h1.cell _).trans (h2 f t hf ht).2, h1.frozen _, h1.frozen _⟩
theorem TabC.set {w : World} {b : Nat} {F : Tab} (h : TabC w b F) {f t : Nat} (hf : f < 8) (ht : t < 8) (x y : Int) : TabC ((w.setCell ⟨b, f * 16 + t * 2, none⟩ (.int .i64 x)).setCell ⟨b, f * 16 + t * 2 + 1, none⟩ (.int .i64 y)) b (upd2 F f t (x, y)) := by
  obtain ⟨cs, h1, h2⟩ := h
  have hl1 := (Array.getElem?_eq_some_iff.1 (h2 f t hf ht).1).1
  have hl2 := (Array.getElem?_eq_some_iff.1 (h2 f t hf ht).2).1
  refine ⟨_, (h1.set _ _).set _ _, fun a c ha hc => ?_⟩
  rw [Array.getElem?_setIfInBounds, Array.getElem?_setIfInBounds, Array.getElem?_setIfInBounds, Array.getElem?_setIfInBounds]
  unfold upd2
  by_cases e : a = f ∧ c = t
  · obtain ⟨rfl, rfl⟩ := e
    simp only [and_self, if_true]
    refine ⟨?_, ?_⟩
    · rw [if_neg (by omega), if_pos hl1]
    · rw [if_pos (by rw [Array.size_setIfInBounds]; exact hl2)]
  · rw [if_neg e]
    have h3 : ¬ (f * 16 + t * 2 = a * 16 + c * 2) := fun h => e (by omega)
    rw [if_neg (by omega), if_neg h3, if_neg (by omega), if_neg (by omega)]
    exact h2 a c ha hc
theorem upd2_id (F : Tab) (f t : Nat) : upd2 F f t (F f t) = F := by
  funext a b
  unfold upd2
  split
  · rename_i h; rw [h.1, h.2]
  · rfl
theorem upd2_twice (F : Tab) (f t : Nat) (v v' : Int × Int) : upd2 (upd2 F f t v) f t v' = upd2 F f t v' := by
  funext a b
  unfold upd2
  by_cases e : a = f ∧ b = t
  · rw [if_pos e, if_pos e]
  · rw [if_neg e, if_neg e, if_neg e]
theorem upd2_other {F : Tab} {f t : Nat} {v : Int × Int} {a b : Nat} (h : ¬ (a = f ∧ b = t)) : upd2 F f t v a b = F a b := if_neg h
theorem upd2_same (F : Tab) (f t : Nat) (v : Int × Int) : upd2 F f t v f t = v := if_pos ⟨rfl, rfl⟩
end Go.Proofs.YthnojgdckkdcgaaDoor

namespace Go.Proofs.YthnojgdckkdcgaaDoor
open Go.RowKit Go.Sort Go.ChangeShapes Go.WideShapes Go.ChangeAt Go.Deep
section
variable {H : Type} {enc : TypeId × Value → H} {P : Program} {w : World} {base : Nat} {sp : Nat → Bool} {held : Bool}
theorem two_ints {t ti : TypeId} {f0 f1 : Field} {fuel : Nat} {cs : List Value} {x : DataW H × List MemPlace} (ht : P.underlying t = some (.struct #[f0, f1])) (hone : oneCellFields P #[f0, f1] = true && (f0.type == ti && f1.type == ti) && P.cellsOf t == 2)
    (hi : P.underlying ti = some (.int .i64)) (h : DataW.trod enc P w base sp held fuel t cs = some x) : ∃ a b, cs = [.int .i64 a, .int .i64 b] := by
  simp only [Bool.and_eq_true, beq_iff_eq, decide_eq_true_eq] at hone
  obtain ⟨⟨ho, e0, e1⟩, hC⟩ := hone
  obtain ⟨xs, n, _, hx, hlen, hxl, hg⟩ := DataW.trod_struct ht h
  obtain ⟨o0, k0⟩ := hone_of ho 0 f0 rfl
  obtain ⟨o1, k1⟩ := hone_of ho 1 f1 rfl
  match cs, hlen.trans hC, xs, hxl with
  | [c0, c1], _, [y0, y1], _ =>
    have g0 := hg 0 f0 rfl
    have g1 := hg 1 f1 rfl
    rw [o0, k0, e0] at g0
    rw [o1, k1, e1] at g1
    simp only [List.drop_zero, List.take_succ_cons, List.take_zero, List.drop_succ_cons, List.getElem?_cons_zero, List.getElem?_cons_succ] at g0 g1
    obtain ⟨a, h0, _⟩ := DataW.trod_int hi g0
    obtain ⟨b, h1, _⟩ := DataW.trod_int hi g1
    injection h0 with h0
    injection h1 with h1
    subst h0 h1
    exact ⟨a, b, rfl⟩
theorem pnt_in {t ts ti : TypeId} {f0 f1 g0 g1 : Field} {fuel : Nat} {cs : List Value} {x : DataW H × List MemPlace} (ht : P.underlying t = some (.struct #[f0, f1])) (hone : (f0.offset == 0 && P.cellsOf f0.type == 2 && f0.type == ts && f1.offset == 2 && P.cellsOf f1.type == 1 && f1.type == ti && P.cellsOf t == 3) = true)
    (hs : P.underlying ts = some (.struct #[g0, g1])) (hone2 : oneCellFields P #[g0, g1] = true && (g0.type == ti && g1.type == ti) && P.cellsOf ts == 2) (hi : P.underlying ti = some (.int .i64)) (h : DataW.trod enc P w base sp held fuel t cs = some x) : ∃ a b c, cs = [.int .i64 a, .int .i64 b, .int .i64 c] := by
  simp only [Bool.and_eq_true, beq_iff_eq] at hone
  obtain ⟨⟨⟨⟨⟨⟨o0, k0⟩, e0⟩, o1⟩, k1⟩, e1⟩, hC⟩ := hone
  obtain ⟨xs, n, _, hx, hlen, hxl, hg⟩ := DataW.trod_struct ht h
  match cs, hlen.trans hC, xs, hxl with
  | [c0, c1, c2], _, [y0, y1], _ =>
    have q0 := hg 0 f0 rfl
    have q1 := hg 1 f1 rfl
    rw [o0, k0, e0] at q0
    rw [o1, k1, e1] at q1
    simp only [List.drop_zero, List.take_succ_cons, List.take_zero, List.drop_succ_cons, List.getElem?_cons_zero, List.getElem?_cons_succ] at q0 q1
    obtain ⟨a, b, h0⟩ := two_ints hs hone2 hi q0
    obtain ⟨c, h1, _⟩ := DataW.trod_int hi q1
    injection h0 with h0 h2
    injection h2 with h2
    injection h1 with h1
    subst h0 h1 h2
    exact ⟨a, b, c, rfl⟩
theorem pnts_fit {t e : TypeId} {fuel : Nat} {cs : List Value} {x : DataW H × List MemPlace} (ht : P.underlying t = some (.slice e)) (hC : P.cellsOf e = 3) (hb9 : P.bytesOf e = 24)
    (hS : ∀ (fuel : Nat) (cs : List Value) (x : DataW H × List MemPlace), DataW.trod enc P w base sp held fuel e cs = some x → ∃ a b c, cs = [.int .i64 a, .int .i64 b, .int .i64 c]) (hf : Fit P t x.1)
    (h : DataW.trod enc P w base sp held fuel t cs = some x) : ∃ A n c f, cs = [.slice A n c] ∧ PntsAt w A n f ∧ n * 24 ≤ 140737488351232 := by
  rcases open_slice ht h with ⟨h0, _⟩ | ⟨a, len, cap, m, n, D, Pl, hcs, hb, hl, hm, hmm, hx, hel⟩
  · exact ⟨none, 0, 0, fun _ => ⟨0, 0, 0⟩, h0, .inl rfl, by decide⟩
  · have hlm : len ≤ m := by rw [hmm]; split <;> omega
    rw [hC] at hel
    rw [hx] at hf
    have f1 := (fit_slice ht hf).1
    rw [hb9] at f1
    rcases Nat.eq_zero_or_pos len with h0 | h0
    · subst h0; exact ⟨_, 0, cap, fun _ => ⟨0, 0, 0⟩, hcs, .inl rfl, by decide⟩
    · have each : ∀ i, i < m → ∃ k0 k1 k2 : Int, w.cell? ((a.add (i * 3)).add 0) = some (.int .i64 k0) ∧ w.cell? ((a.add (i * 3)).add 1) = some (.int .i64 k1) ∧ w.cell? ((a.add (i * 3)).add 2) = some (.int .i64 k2) := fun i him => by
        obtain ⟨cs', h1, h2⟩ := hel i him
        obtain ⟨_, hlen, hcell⟩ := World.cells?_some h1
        obtain ⟨k0, k1, k2, rfl⟩ := hS _ _ _ h2
        exact ⟨k0, k1, k2, hcell 0 (by omega), hcell 1 (by omega), hcell 2 (by omega)⟩
      obtain ⟨_, _, _, h1, _⟩ := each 0 (by omega)
      have hs : a.spot = none := by simpa [Addr.add] using World.cell?_spot h1
      obtain ⟨b, o, s⟩ := a
      simp only at hs
      subst hs
      refine ⟨_, len, cap, fun i => ⟨intAt w ⟨b, o + i * 3, none⟩, intAt w ⟨b, o + i * 3 + 1, none⟩, intAt w ⟨b, o + i * 3 + 2, none⟩⟩, hcs, .inr ⟨b, o, rfl, World.block_lt_of_cell? w _ (by simpa [Addr.add] using h1), fun i hi' => ?_⟩, f1⟩
      obtain ⟨k0, k1, k2, c0, c1, c2⟩ := each i (by omega)
      rw [add_none, add_none] at c0 c1 c2
      simp only [Nat.add_zero] at c0
      simp only [intAt, c0, c1, c2]
      exact ⟨trivial, trivial, trivial⟩
end
theorem duct_in' {H : Type} {enc : TypeId × Value → H} {P : Program} {W : World} {base b0 : Nat} {r : Reach} {sp : Nat → Bool} {held : Bool} {v : Value} {d : DataW H} {p : List MemPlace} {t ts tl : TypeId} {f0 f1 : Field}
    (ht : P.underlying t = some (.struct #[f0, f1])) (hone : oneCellFields P #[f0, f1] = true && (f0.type == ts && f1.type == tl) && P.cellsOf t == 2)
    (hR : ∀ (fuel : Nat) (cs : List Value) (x : DataW H × List MemPlace), Fit P ts x.1 → DataW.trod enc P W base sp held fuel ts cs = some x → ∃ A n c f, cs = [.slice A n c] ∧ PntsAt W A n f ∧ n * 24 ≤ 140737488351232)
    (hF : ∀ (fuel : Nat) (cs : List Value) (x : DataW H × List MemPlace), Fit P tl x.1 → DataW.trod enc P W base sp held fuel tl cs = some x → ∃ A n c g, cs = [.slice A n c] ∧ IntsAt W A n g ∧ SliceIn A n c ∧ n * 8 ≤ 140737488351232)
    (hv : Value.okWide P W r b0 t v) (hf : Fit P t d) (h : DataW.Trod enc P W base sp held t v d p) :
    ∃ (Ap Ao : Option Addr) (cp co : Nat) (y : Dk), v = .agg #[.slice Ap y.np cp, .slice Ao y.no co] ∧ DAt W Ap Ao y ∧ y.Fits := by
  simp only [Bool.and_eq_true, beq_iff_eq, decide_eq_true_eq] at hone
  obtain ⟨⟨ho, e0, e1⟩, hC⟩ := hone
  obtain ⟨cs, rfl, hsz⟩ := okWide_struct ht hv
  obtain ⟨l⟩ := cs
  obtain ⟨fuel, hf'⟩ := h
  obtain ⟨xs, n, _, hx, hlen, hxl, hg⟩ := DataW.trod_struct ht hf'
  obtain ⟨o0, k0⟩ := hone_of ho 0 f0 rfl
  obtain ⟨o1, k1⟩ := hone_of ho 1 f1 rfl
  match l, hsz.trans hC, xs, hxl with
  | [c0, c1], _, [y0, y1], _ =>
    have g0 := hg 0 f0 rfl
    have g1 := hg 1 f1 rfl
    rw [o0, k0, e0] at g0
    rw [o1, k1, e1] at g1
    simp only [Value.cells, List.drop_zero, List.take_succ_cons, List.take_zero, List.drop_succ_cons, List.getElem?_cons_zero, List.getElem?_cons_succ] at g0 g1
    have hd : d = .agg [y0.1, y1.1] := congrArg Prod.fst hx
    rw [hd] at hf
    have q0 := fit_part ht hf (j := 0) (f := f0) (d := y0.1) rfl rfl
    have q1 := fit_part ht hf (j := 1) (f := f1) (d := y1.1) rfl rfl
    rw [e0] at q0
    rw [e1] at q1
    obtain ⟨A, n0, k, f, h0, a1, a2⟩ := hR _ _ _ q0 g0
    obtain ⟨B, n1, k', g, h1, b1, _, b3⟩ := hF _ _ _ q1 g1
    injection h0 with h0
    injection h1 with h1
    subst h0 h1
    exact ⟨A, B, k, k', ⟨n0, f, n1, g⟩, rfl, ⟨a1, b1⟩, ⟨a2, b3⟩⟩
set_option maxRecDepth 100000 in
theorem duct_in {H : Type} {enc : TypeId × Value → H} {W : World} {base b0 : Nat} {r : Reach} {sp : Nat → Bool} {held : Bool} {v : Value} {d : DataW H} {p : List MemPlace} (hv : Value.okWide Tryd.prog W r b0 25 v) (hf : Fit Tryd.prog 25 d) (h : DataW.Trod enc Tryd.prog W base sp held 25 v d p) :
    ∃ (Ap Ao : Option Addr) (cp co : Nat) (y : Dk), v = .agg #[.slice Ap y.np cp, .slice Ao y.no co] ∧ DAt W Ap Ao y ∧ y.Fits :=
  duct_in' Tryd.underlying25 (by kernel_rfl) (fun _ _ _ hf h => pnts_fit Tryd.underlying22 (by kernel_rfl) (by kernel_rfl) (fun _ _ _ h => pnt_in Tryd.underlying35 (by kernel_rfl) Tryd.underlying33 (by kernel_rfl) Tryd.underlying3 h) hf h) (fun _ _ _ hf h => ints_fit Tryd.underlying23 Tryd.underlying3 (by kernel_rfl) (by kernel_rfl) hf h) hv hf h
end Go.Proofs.YthnojgdckkdcgaaDoor

