/- Parts joined. -/
import Derived.Test.YtchhodikgllgnaaDoorNQM
import Derived.Test.YtchhodikgllgnaaDoorNQI
import Derived.Test.YtchhodikgllgnaaDoorNQK
import Derived.Test.YtchhodikgllgnaaDoorNQF
set_option linter.unusedSimpArgs false
set_option linter.unusedVariables false
/- Walk of the package quarrels: Next. Conditions: lengths are Go's; the listed table holds what it holds. -/
namespace Go.Proofs.YtchhodikgllgnaaDoor
open Go.RowKit Go.Sort Go.Shelf
attribute [local go_sem] Oper.semAt_some
/-- what Next finds -/
def Qt.nextP (t : Qt) (L : List Int) : Option Tp := if 0 < t.depth L then t.tests.find? (fun x => 1 + t.afterP x L == t.depth L) else none
noncomputable def Qt.nextErr (t : Qt) : Int := if t.knowErr true = 0 then (if (t.nextP t.leftL).isSome then 0 else 3) else t.knowErr true
noncomputable def Qt.nextOut (t : Qt) : Tp := if t.knowErr true = 0 then (t.nextP t.leftL).getD (0, 0) else (0, 0)
theorem grown_cell {w w' : World} {r : Option Nat} {b : Nat} (h : w.grownBy w' r) (hb : w.heap.size ≤ b) (o : Nat) (v : Value) : w.grownBy (w'.setCell ⟨b, o, none⟩ v) r :=
  ⟨h.os, h.tape, h.output, by simpa [World.setCell] using h.size, fun k hk hr => (Below.heap_setCell w' ⟨b, o, none⟩ v k (by show k ≠ b; omega)).trans (h.block k hk hr)⟩
def Qt.nextB (t : Qt) (L : List Int) (x : Tp) : Bool := decide (0 < t.depth L) && (1 + t.afterP x L == t.depth L)
theorem nextP_find (t : Qt) (L : List Int) : t.nextP L = t.tests.find? (t.nextB L) := by
  unfold Qt.nextP
  split
  · rename_i h
    congr 1
    funext x
    unfold Qt.nextB
    rw [decide_eq_true h, Bool.true_and]
  · rename_i h
    symm
    rw [List.find?_eq_none]
    intro x _
    unfold Qt.nextB
    simp [h]
theorem find_prefix {α : Type} {p : α → Bool} {l l' : List α} {x : α} (h : l <+: l') (hf : l.find? p = some x) : l'.find? p = some x := by
  obtain ⟨r, rfl⟩ := h
  rw [List.find?_append, hf]
  rfl
theorem find_snoc_none {α : Type} {p : α → Bool} {l : List α} {x : α} (h : l.find? p = none) (hx : p x = false) : (l ++ [x]).find? p = none := by
  rw [List.find?_append, h]
  simp [hx]
theorem find_snoc_some {α : Type} {p : α → Bool} {l : List α} {x : α} (h : l.find? p = none) (hx : p x = true) : (l ++ [x]).find? p = some x := by
  rw [List.find?_append, h]
  simp [hx]
section
variable {P : Program} {ops : Array Oper} {Cl : World → Prop}
theorem wpCls_on {Q : Act → Prop} {o : Oper} {rest : List Oper} {c : Value} {cs : List Value} {a : Act} (hw : Region.wanted o (yielded ops a.tmps) = true) (h1 : ∀ w', Cl w' → clsAt P Cl o a w' c) (h2 : wpCls P ops Cl Q rest cs (a.put o.dst c)) : wpCls P ops Cl Q (o :: rest) (c :: cs) a := by
  refine wpCls_step ?_ h2
  rw [if_pos hw]
  exact h1
theorem wpCls_off {Q : Act → Prop} {o : Oper} {rest : List Oper} {cs : List Value} {a : Act} (hw : Region.wanted o (yielded ops a.tmps) = false) (h2 : wpCls P ops Cl Q rest cs (a.put o.dst undef)) : wpCls P ops Cl Q (o :: rest) (undef :: cs) a := by
  refine wpCls_step ?_ h2
  rw [if_neg (by rw [hw]; decide)]
end
theorem next_set {w W : World} {b : Nat} {x y z x0 y0 z0 : Value} (hb : Below w.heap.size w W) (h1 : w.heap.size ≤ b) (hlt : b + 1 < W.heap.size) (t0 : W.cell? ⟨b, 0, none⟩ = some x0) (t1 : W.cell? ⟨b, 1, none⟩ = some y0) (t2 : W.cell? ⟨b + 1, 0, none⟩ = some z0) (B : Nat) :
    BoxAt (((W.setCell ⟨b, 0, none⟩ x).setCell ⟨b, 1, none⟩ y).setCell ⟨b + 1, 0, none⟩ z) b [x, y] ∧ BoxAt (((W.setCell ⟨b, 0, none⟩ x).setCell ⟨b, 1, none⟩ y).setCell ⟨b + 1, 0, none⟩ z) (b + 1) [z] ∧ Below w.heap.size w (((W.setCell ⟨b, 0, none⟩ x).setCell ⟨b, 1, none⟩ y).setCell ⟨b + 1, 0, none⟩ z) ∧ KeepsFrom B W (((W.setCell ⟨b, 0, none⟩ x).setCell ⟨b, 1, none⟩ y).setCell ⟨b + 1, 0, none⟩ z) := by
  have k1 : (W.setCell ⟨b, 0, none⟩ x).cell? ⟨b, 0, none⟩ = some x := World.cell?_setCell_same _ _ _ t0
  have k2 : (W.setCell ⟨b, 0, none⟩ x).cell? ⟨b, 1, none⟩ = some y0 := (World.cell?_setCell_other _ _ _ _ (fun e => by injection e with _ e; cases e)).trans t1
  have k3 : (W.setCell ⟨b, 0, none⟩ x).cell? ⟨b + 1, 0, none⟩ = some z0 := (World.cell?_setCell_other _ _ _ _ (fun e => by injection e with e; omega)).trans t2
  have l1 : ((W.setCell ⟨b, 0, none⟩ x).setCell ⟨b, 1, none⟩ y).cell? ⟨b, 0, none⟩ = some x := (World.cell?_setCell_other _ _ _ _ (fun e => by injection e with _ e; cases e)).trans k1
  have l2 : ((W.setCell ⟨b, 0, none⟩ x).setCell ⟨b, 1, none⟩ y).cell? ⟨b, 1, none⟩ = some y := World.cell?_setCell_same _ _ _ k2
  have l3 : ((W.setCell ⟨b, 0, none⟩ x).setCell ⟨b, 1, none⟩ y).cell? ⟨b + 1, 0, none⟩ = some z0 := (World.cell?_setCell_other _ _ _ _ (fun e => by injection e with e; omega)).trans k3
  refine ⟨BoxAt.two (by simp [World.setCell]; omega) ((World.cell?_setCell_other _ _ _ _ (fun e => by injection e with e; omega)).trans l1) ((World.cell?_setCell_other _ _ _ _ (fun e => by injection e with e; omega)).trans l2), ⟨by simp [World.setCell]; omega, fun i v hi => ?_⟩, ?_, ?_⟩
  · match i, hi with
    | 0, hi => injection hi with hi; subst hi; exact World.cell?_setCell_same _ _ _ l3
  · exact Below.setCell (p := ⟨b + 1, 0, none⟩) (Below.setCell (p := ⟨b, 1, none⟩) (Below.setCell (p := ⟨b, 0, none⟩) hb h1 _) h1 _) (by show w.heap.size ≤ b + 1; omega) _
  · exact (((KeepsOthers.setCell W _ _).trans (KeepsOthers.setCell _ _ _)).trans (KeepsOthers.setCell _ _ _)).from _
/-- the worlds of the region: the map is right; the new box is there -/
def NextCl (w : World) (mp : Nat) (t : Qt) (ob : Option Nat) (w' : World) : Prop := w.grownBy w' (some mp) ∧ DepMap w' mp t ∧ ∀ b, ob = some b → w.heap.size ≤ b ∧ Boxed w' b 3 (.int .i64 0)
theorem NextCl.step {w w' w'' : World} {mp : Nat} {t : Qt} {ob : Option Nat} (h : NextCl w mp t ob w') (hmp : mp < w.heap.size) (hg : w'.grownBy w'' (some mp)) (hd : DepMap w'' mp t) : NextCl w mp t ob w'' :=
  ⟨grown_trans h.1 hg, hd, fun b hb => ⟨(h.2.2 b hb).1, (h.2.2 b hb).2.kept hg (fun e => by injection e with e; have := (h.2.2 b hb).1; omega)⟩⟩
theorem NextCl.start {w : World} {mp : Nat} {t : Qt} (h : DepMap w mp t) : NextCl w mp t none { w with drawn := w.drawn + 1 } := by
  have hb : Below w.heap.size w { w with drawn := w.drawn + 1 } := (Below.refl _ _).drew
  exact ⟨grown_below hb, h.mono hb, fun b e => by cases e⟩
theorem NextCl.new {w w' : World} {mp : Nat} {t : Qt} (h : NextCl w mp t none w') : NextCl w mp t (some w'.heap.size) (w'.alloc (.cells #[.int .i64 0] 3)) :=
  ⟨grown_alloc h.1 _, h.2.1.mono (bAlloc (Below.refl _ _) _), fun b hb => by injection hb with hb; subst hb; exact ⟨h.1.size, Boxed.new _ _ _⟩⟩
set_option maxHeartbeats 4000000 in
set_option maxRecDepth 100000 in
theorem nextQ_any (Aw Af : Option Addr) (cw cf : Nat) (t : Qt) (w : World) (hs : t.Small) (hT : QAt w Aw Af t) (hB : TabAt w) :
    Calls Tryd.prog 44 #[.agg #[.int .i64 t.wells, .slice Aw t.nw cw, .slice Af t.nf cf]] w fun e w' => e = .returned (.tuple #[.agg #[.int .i64 t.nextOut.1, .int .i64 t.nextOut.2], .int .i64 t.nextErr]) ∧ Below w.heap.size w w' := by
  have hb0 := bAlloc (bAlloc (bAlloc (Below.refl w.heap.size w) (.cells #[.int .i64 t.wells, .slice Aw t.nw cw, .slice Af t.nf cf] 25)) (.cells #[.int .i64 0, .int .i64 0] 27)) (.cells #[.int .i64 0] 31)
  have HT := Lib.hid (hT.mono hb0)
  have HTB := Lib.hid (hB.mono hb0)
  have HB := Lib.hid hb0
  clear hT hb0 hB
  refine (callsIn_wide (n := 9)).1 ?_
  refine callsIn_of_wp_marks Tryd.func44 rfl trivial ?_ rfl
  simp only [Tryd.ntmps44, List.size_toArray, List.length_cons, List.length_nil, Nat.reduceAdd, Nat.reduceSub, Array.replicate_succ, Array.replicate_zero, List.push_toArray, List.append_toArray, List.nil_append, List.cons_append]
  by_cases he : t.knowErr true = 0
  · obtain ⟨ok, _, _⟩ := knowErr_zero he
    have HKE := Lib.hid he
    have HOK := Lib.hid ok
    obtain ⟨s, hsk⟩ : ∃ s, t.maskTo t.nw = s := ⟨_, rfl⟩
    have HBM := Lib.hid (show bitsL s = t.leftL by rw [← hsk]; exact bits_mask t ok.nw)
    have H64 := Lib.hid (show s < 64 by rw [← hsk]; exact mask_64 t ok.nw)
    have HSUB := Lib.hid (show ∀ i : Nat, s.testBit i = true → i < t.nw by rw [← hsk]; exact mask_sub)
    have HSK := Lib.hid hsk
    clear hsk ok he
    gi_wp2
    refine ⟨trivial, (callsIn_wide.2 (openQ_any _ _ _ _ t _ _ hs HT.out)).mono ?_⟩
    rintro e w1 ⟨⟨_, hk⟩, hb1⟩
    obtain ⟨C, mp, rfl, hc, hCb, hm, hbm⟩ := hk HKE.out
    rw [HSK.out] at hc
    have HD := Lib.hid (denv_ask hb1 hc hm HT.out HTB.out hbm)
    have HB1 := Lib.hid hb1
    have z1 := hb1.size
    simp only [World.size_alloc] at z1
    clear hk hc hb1 hm hbm
    gi_wp2
    generalize hw4 : w1.alloc (.cells #[.pointer (some ⟨C, 0, none⟩)] 89) = w4
    have hb4 : Below w1.heap.size w1 w4 := hw4 ▸ bAlloc (Below.refl _ _) _
    have hz4 : w4.heap.size = w1.heap.size + 1 := by rw [← hw4]; simp
    have y4 : w4.cell? ⟨w1.heap.size, 0, none⟩ = some (.pointer (some ⟨C, 0, none⟩)) := by rw [← hw4]; simp [go_sem]
    have HD4 := Lib.hid (HD.out.mono hb4)
    have HB4 := Lib.hid (bTrans HB1.out hb4)
    have x1 := HD4.out.court.box.lt
    have x2 := HD4.out.dep.lt
    obtain ⟨n, hn⟩ : ∃ n, t.depth (bitsL s) = n := ⟨_, rfl⟩
    have HEN := Lib.hid (fun (W' : World) (hg : w4.grownBy W' (some mp)) (hd : DepMap W' mp t) => (hn ▸ enough_any HOK.out (s + 1) s (Nat.lt_succ_self s) H64.out HSUB.out W' (HD4.out.step hg hd) : Calls Tryd.prog 93 #[.pointer (some ⟨C, 0, none⟩), .int .u64 s] W' fun e w' => e = .returned (.int .i64 n) ∧ W'.grownBy w' (some mp) ∧ DepMap w' mp t))
    have HN := Lib.hid hn
    clear hb4 hn hw4
    refine wpIn_region_one (openWide _) 7 6 [some (.pointer (some ⟨C, 0, none⟩)), some (.pointer (some ⟨C, 0, none⟩)), some (.pointer (some ⟨C, 0, none⟩)), some (.pointer (some ⟨C, 3, none⟩)), some (.int .u64 (s : Int)), some (.int .i64 n), none] (NextCl w4 mp t) (fun b => .pointer (some ⟨b, 0, none⟩)) (by kernel_rfl) (by kernel_rfl) rfl rfl rfl (NextCl.start HD4.out.dep) (fun b6 => ?_)
    iterate 6
      refine wpOne_do rfl (fun ob W' hw' => ?_) ?_
      · have hw' : NextCl w4 mp t ob W' := hw'
        have g4 := (cell_of_heap (hw'.1.block w1.heap.size (by omega) (fun e => by injection e with e; have := HD.out.dep.lt; omega)) 0).trans y4
        have gC := (cell_of_heap (hw'.1.block C x1 (fun e => HD.out.ne (by injection e))) 3).trans (HD4.out.court.box.cell 3 _ rfl)
        have HW := Lib.hid hw'
        clear hw' y4
        go_simp
        try
          (refine (HEN.out W' HW.out.1 HW.out.2.1).mono ?_
           rintro e w'' ⟨rfl, h1, h2⟩
           exact ⟨rfl, HW.out.step x2 h1 h2⟩)
        try exact HW.out
      try simp only [Act.put, List.setIfInBounds_toArray, List.set_cons_succ, List.set_cons_zero]
    refine wpOne_new rfl (fun W' hw' => ⟨W'.heap.size, ?_⟩) ?_
    · have HW := Lib.hid hw'
      clear hw' y4
      go_simp
      exact HW.out.new
    simp only [Act.put, List.setIfInBounds_toArray, List.set_cons_succ, List.set_cons_zero]
    refine wpOne_nil ?_
    intro W' hw'
    have HCL := Lib.hid hw'
    obtain ⟨hg', hd', hbx⟩ := hw'
    obtain ⟨hb6, hbx⟩ := hbx b6 rfl
    have q1 := hbx.cell
    have q2 := hbx.frozen
    have q3 := hbx.lt
    have q4 := (cell_of_heap (hg'.block w1.heap.size (by omega) (fun e => by injection e with e; have := HD.out.dep.lt; omega)) 0).trans y4
    have q6 : b6 ≠ w1.heap.size := by omega
    have q7 : w1.heap.size ≠ b6 := by omega
    have q5 : w1.heap.size < W'.heap.size := Nat.lt_of_lt_of_le (by omega) hg'.size
    have HB6 := Lib.hid hb6
    have HBX := Lib.hid hbx
    have Y4 := Lib.hid y4
    clear hg' hd' hbx hb6 y4
    simp only [List.drop_succ_cons, List.drop_zero]
    gi_wp2
    generalize hw5 : W'.setCell ⟨b6, 0, none⟩ (.int .i64 n) = w5
    have HCT := Lib.hid HD4.out.court
    obtain ⟨m, hm⟩ : ∃ m : Nat, t.wells = (m : Int) := ⟨t.wells.toNat, by have := HOK.out.w0; omega⟩
    have HM := Lib.hid hm
    have m4 : m ≤ 4 := by have := HOK.out.w1; omega
    have HTE := Lib.hid (show t.tests = testsL m by unfold Qt.tests; rw [hm]; rfl)
    have hg5 : w4.grownBy w5 (some mp) := hw5 ▸ grown_cell HCL.out.1 HB6.out _ _
    have hd5 : DepMap w5 mp t := hw5 ▸ HCL.out.2.1.set (by have := HB6.out; omega) _ _
    have hx5 : Boxed w5 b6 3 (.int .i64 n) := hw5 ▸ HBX.out.set _
    have HG5 := Lib.hid hg5
    have HX5 := Lib.hid hx5
    have HE5 := Lib.hid (HD4.out.step hg5 hd5)
    have hc5 := HE5.out.court.box.cell 0 _ rfl
    rw [hm] at hc5
    have hl5 := HE5.out.court.box.lt
    have hz5 := hg5.size
    have hb6 := hx5.lt
    have hmp := HD.out.dep.lt
    have hbm := HD.out.base
    simp only [World.size_alloc] at hbm
    have r1 := (cell_of_heap (hg5.block w1.heap.size (by omega) (fun e => by injection e with e; omega)) 0).trans Y4.out
    clear hm hg5 hd5 hx5 hw5 q1 q2 q3 q4 q5 q6 q7
    have HSEQ := Lib.hid (tests_seq 8 C m w5 (by decide) m4 hl5 hc5)
    have HFL := Lib.hid (fun (W : World) (hg : w5.grownBy W (some mp)) (hd : DepMap W mp t) => (HE5.out.step hg hd : DEnv _ W C mp s Aw Af cw cf t))
    refine wpIn_range_bound (gf := 77) (bnd := #[.pointer (some ⟨C, 0, none⟩)]) rfl (by decide) rfl trivial (enters_of Tryd.func77 (by kernel_rfl)) HSEQ.out kpC_t (kpC_b hl5) (fun _ => rfl)
      (fun pre W => pre.find? (t.nextB (bitsL s)) = none ∧ w5.grownBy W (some mp) ∧ DepMap W mp t)
      (fun c pre W => c = .ret ∧ ∃ x : Tp, pre.find? (t.nextB (bitsL s)) = some x ∧ BoxAt W (w.heap.size + 1) [.int .i64 x.1, .int .i64 x.2] ∧ BoxAt W (w.heap.size + 1 + 1) [.int .i64 0] ∧ Below w.heap.size w W)
      ((ownFrom_pure _ _).and ((ownFrom_grown (Nat.le_refl _)).and (ownFrom_dep (by omega))))
      (fun c _ X Y row hs hg hr => by
        obtain ⟨h1, x, h2, h3, h4, h5⟩ := hs
        exact ⟨h1, x, h2, ownFrom_box (β := Unit) _ _ (by simp) () X Y row h3 hg hr, ownFrom_box (β := Unit) _ _ (by simp) () X Y row h4 hg hr, ownFrom_below (β := Unit) (Nat.le_refl _) (by omega) () X Y row h5 hg hr⟩)
      ⟨rfl, grownR _ _, HE5.out.dep⟩
      (fun x a' W => ∃ bx, w5.heap.size ≤ bx ∧ BoxAt W bx [.int .i64 x.1, .int .i64 x.2] ∧ a' = { tmps := #[.agg #[.int .i64 t.wells, .slice Aw t.nw cw, .slice Af t.nf cf], .pointer (some ⟨w.heap.size, 0, none⟩), .pointer (some ⟨w.heap.size + 1, 0, none⟩), .pointer (some ⟨w.heap.size + 1 + 1, 0, none⟩), .pointer (some ⟨w1.heap.size, 0, none⟩), .int .i64 0, .pointer (some ⟨b6, 0, none⟩), .pointer (some ⟨bx, 0, none⟩), .tuple #[.pointer (some ⟨C, 0, none⟩), .int .i64 0], .agg #[.int .i64 t.wells, .slice Aw t.nw cw, .slice Af t.nf cf], .tuple #[.pointer (some ⟨C, 0, none⟩), .int .i64 0], .pointer (some ⟨C, 0, none⟩), .int .i64 0, .int .i64 0, .bool false, undef, undef, .pointer (some ⟨C, 0, none⟩), .pointer (some ⟨C, 0, none⟩), .pointer (some ⟨C, 0, none⟩), .pointer (some ⟨C, 3, none⟩), .int .u64 (s : Int), .int .i64 n, .pointer (some ⟨C, 0, none⟩), .func (.func 77) #[.pointer (some ⟨C, 0, none⟩)] #[], .agg #[.int .i64 x.1, .int .i64 x.2], undef, undef, undef, undef, undef, undef, undef, undef, undef, undef, undef, undef, undef, undef, undef, undef], defers := [] })
      (fun x a' _ X Y row hs hg hr => by
        obtain ⟨bx, h1, h2, h3⟩ := hs
        exact ⟨bx, h1, ownFrom_box (β := Unit) bx _ (by simp) () X Y row h2 hg hr, h3⟩) ?assign ?body ?done ?stop
    case assign =>
      rintro l pre x W K hsz ⟨hpre, hgr, hdp⟩ hK
      have HPRE := Lib.hid hpre
      have HGR := Lib.hid hgr
      have HDP := Lib.hid hdp
      clear hpre hgr hdp
      simp only [encT]
      have hbx : BoxAt (W.alloc (.cells #[.int .i64 x.1, .int .i64 x.2] 27)) W.heap.size [.int .i64 x.1, .int .i64 x.2] := BoxAt.two (by simp) (by simp [go_sem]) (by simp [go_sem])
      have HNX := Lib.hid hbx
      clear hbx
      gi_wp2
      exact hK _ _ (keeps_below (bAlloc (Below.refl _ _) _)) (kpC_of (bAlloc (Below.refl W.heap.size W) _) (by omega)) ⟨HPRE.out, grown_alloc HGR.out _, HDP.out.mono (bAlloc (Below.refl _ _) _)⟩ ⟨W.heap.size, hsz, HNX.out, rfl⟩
    case body =>
      rintro l pre x a' W hsz ⟨hpre, hgr, hdp⟩ ⟨bx, hbb, hX, rfl⟩ hlen
      have HPRE := Lib.hid hpre
      have HGR := Lib.hid hgr
      have HDP := Lib.hid hdp
      have HXX := Lib.hid hX
      have hxm := testsL_mem.1 (hlen.subset (List.mem_append_right _ (List.mem_singleton.2 rfl)))
      obtain ⟨p, q⟩ := x
      have HP := Lib.hid (show (p : Int) < t.wells by rw [HM.out]; have := hxm.1; simp at this; omega)
      have HQ := Lib.hid (show (q : Int) < t.wells by rw [HM.out]; have := hxm.2; simp at this; omega)
      obtain ⟨a, ha⟩ : ∃ a, t.afterP (p, q) (bitsL s) = a := ⟨_, rfl⟩
      have habd := afterP_bd t (p, q) (bitsL s) (by have := bitsL_len s; omega)
      rw [ha] at habd
      have e1 : IntKind.i64.wrap (1 + a) = 1 + a := IntWalk.i64_in _ (by omega)
      obtain ⟨g, hg⟩ : ∃ g, (1 + a == n) = g := ⟨_, rfl⟩
      have HNB := Lib.hid (show t.nextB (bitsL s) (p, q) = (decide (0 < n) && g) by unfold Qt.nextB; rw [ha, HN.out, hg])
      have HAF := Lib.hid (fun (W' : World) (hg : W.grownBy W' (some mp)) (hd : DepMap W' mp t) => (ha ▸ after_any HOK.out H64.out HSUB.out (fun s' hs' hsub' => enough_any HOK.out (s' + 1) s' (Nat.lt_succ_self _) (by have := H64.out; omega) hsub') p q HP.out HQ.out W' (HFL.out W' (grown_trans HGR.out hg) hd) : Calls Tryd.prog 95 #[.pointer (some ⟨C, 0, none⟩), .int .u64 (s : Int), .agg #[.int .i64 p, .int .i64 q]] W' fun e w' => e = .returned (.int .i64 a) ∧ W'.grownBy w' (some mp) ∧ DepMap w' mp t))
      have HCELL := Lib.hid (fun (W' : World) (hg : W.grownBy W' (some mp)) (k o : Nat) (hk : k < W.heap.size) (hne : k ≠ mp) => (cell_of_heap (hg.block k hk (fun e => hne (Option.some.inj e))) o : W'.cell? ⟨k, o, none⟩ = W.cell? ⟨k, o, none⟩))
      have hEW := HFL.out W hgr hdp
      have HEW := Lib.hid hEW
      have y1 := (cell_of_heap (hgr.block w1.heap.size (by omega) (fun e => by injection e with e; omega)) 0).trans r1
      have yC := hEW.court.box.cell 3 _ rfl
      have yD := hEW.court.box.lt
      have hnC := HE5.out.ne
      have HX6 := Lib.hid (HX5.out.kept hgr (fun e => by injection e with e; have := HB6.out; omega))
      have h6m : b6 ≠ mp := by have := HB6.out; omega
      clear hpre hgr hdp hX hlen hxm ha habd hEW
      by_cases hn0 : 0 < n
      · have g0 : decide (n > 0) = true := decide_eq_true hn0
        have g1 : decide (0 < n) = true := decide_eq_true hn0
        gi_wp2
        refine wpIn_region_cls (openRound _ l) 14 [.int .i64 n, .bool true, .bool true, .pointer (some ⟨C, 0, none⟩), .pointer (some ⟨C, 0, none⟩), .pointer (some ⟨C, 0, none⟩), .pointer (some ⟨C, 3, none⟩), .int .u64 (s : Int), .agg #[.int .i64 p, .int .i64 q], .int .i64 a, .int .i64 (1 + a), .int .i64 n, .bool g, .bool g] (fun W' => W.grownBy W' (some mp) ∧ DepMap W' mp t) (by kernel_rfl) (by kernel_rfl) rfl ⟨grown_below (Below.refl _ _).drew, HDP.out.mono (Below.refl _ _).drew⟩ ?_
        iterate 14
          refine wpCls_on rfl (fun W' hw' => ?_) ?_
          · obtain ⟨hg', hd'⟩ : W.grownBy W' (some mp) ∧ DepMap W' mp t := hw'
            have g2 := (HX6.out.kept hg' (fun e => by injection e with e; omega)).cell
            have g3 := (HCELL.out W' hg' w1.heap.size 0 (by omega) (by omega)).trans y1
            have g4 := (HCELL.out W' hg' C 3 yD hnC).trans yC
            have gx := (HCELL.out W' hg' bx 0 HXX.out.lt (by omega)).trans (HXX.out.cell 0 _ rfl)
            have gy := (HCELL.out W' hg' bx 1 HXX.out.lt (by omega)).trans (HXX.out.cell 1 _ rfl)
            have HG' := Lib.hid hg'
            have HD' := Lib.hid hd'
            clear y1 yC
            go_simp
            all_goals
              refine (HAF.out W' HG'.out HD'.out).mono ?_
              rintro e w'' ⟨rfl, h1, h2⟩
              exact ⟨rfl, grown_trans HG'.out h1, h2⟩
          try simp only [Act.put, List.setIfInBounds_toArray, List.set_cons_succ, List.set_cons_zero]
        refine wpCls_nil ?_
        intro W' hw'
        obtain ⟨hg', hd'⟩ : W.grownBy W' (some mp) ∧ DepMap W' mp t := hw'
        have gC := HCELL.out W' hg' C 0 yD hnC
        have gx := (HCELL.out W' hg' bx 0 HXX.out.lt (by omega)).trans (HXX.out.cell 0 _ rfl)
        have gy := (HCELL.out W' hg' bx 1 HXX.out.lt (by omega)).trans (HXX.out.cell 1 _ rfl)
        have HG' := Lib.hid hg'
        have HD' := Lib.hid hd'
        have HGC := Lib.hid gC
        have HE' := Lib.hid (HEW.out.step hg' hd')
        have zW := hg'.size
        have z0 := HE'.out.below
        have t0 := (z0.cell (p := ⟨w.heap.size + 1, 0, none⟩) (by simp <;> omega)).trans (show _ = some (.int .i64 0) by simp [go_sem])
        have t1 := (z0.cell (p := ⟨w.heap.size + 1, 1, none⟩) (by simp <;> omega)).trans (show _ = some (.int .i64 0) by simp [go_sem])
        have t2 := (z0.cell (p := ⟨w.heap.size + 1 + 1, 0, none⟩) (by simp)).trans (show _ = some (.int .i64 0) by simp [go_sem])
        have t3 := (z0.frozen (p := ⟨w.heap.size + 1, 0, none⟩) (by simp <;> omega)).trans (show _ = false by simp [go_sem])
        have t4 := (z0.frozen (p := ⟨w.heap.size + 1, 1, none⟩) (by simp <;> omega)).trans (show _ = false by simp [go_sem])
        have t5 := (z0.frozen (p := ⟨w.heap.size + 1 + 1, 0, none⟩) (by simp)).trans (show _ = false by simp [go_sem])
        simp only [List.drop_succ_cons, List.drop_zero]
        clear hg' hd' gC y1 yC z0
        cases g
        · have HNO := Lib.hid (find_snoc_none HPRE.out (show t.nextB (bitsL s) (p, q) = false by rw [HNB.out]; simp))
          gi_wp2
          exact ⟨KeepsFrom.of_grownBy HG'.out (fun j e => by injection e with e; omega), HGC.out, HNO.out, grown_trans HGR.out HG'.out, HD'.out⟩
        · have HYES := Lib.hid (find_snoc_some HPRE.out (show t.nextB (bitsL s) (p, q) = true by rw [HNB.out]; simp [hn0]))
          have HNS := Lib.hid (next_set (x := .int .i64 p) (y := .int .i64 q) (z := .int .i64 0) (bTrans HB.out HE'.out.below) (show w.heap.size ≤ w.heap.size + 1 by omega) (show w.heap.size + 1 + 1 < W'.heap.size by omega) t0 t1 t2 w5.heap.size)
          gi_wp2
          exact ⟨(KeepsFrom.of_grownBy HG'.out (fun j e => by injection e with e; omega)).trans HNS.out.2.2.2, rfl, (p, q), HYES.out, HNS.out.1, HNS.out.2.1, HNS.out.2.2.1⟩
      · have g0 : decide (n > 0) = false := decide_eq_false hn0
        have g1 : decide (0 < n) = false := decide_eq_false hn0
        gi_wp2
        refine wpIn_region_cls (openRound _ l) 14 [.int .i64 n, .bool false, .bool false, undef, undef, undef, undef, undef, undef, undef, undef, undef, undef, .bool false] (fun W' => W.grownBy W' (some mp) ∧ DepMap W' mp t) (by kernel_rfl) (by kernel_rfl) rfl ⟨grown_below (Below.refl _ _).drew, HDP.out.mono (Below.refl _ _).drew⟩ ?_
        iterate 14
          first
          | (refine wpCls_off rfl ?_
             try simp only [Act.put, List.setIfInBounds_toArray, List.set_cons_succ, List.set_cons_zero])
          | (refine wpCls_on rfl (fun W' hw' => ?_) ?_
             · obtain ⟨hg', hd'⟩ : W.grownBy W' (some mp) ∧ DepMap W' mp t := hw'
               have g2 := (HX6.out.kept hg' (fun e => by injection e with e; omega)).cell
               have HG' := Lib.hid hg'
               have HD' := Lib.hid hd'
               clear y1 yC hg' hd'
               go_simp
               exact ⟨HG'.out, HD'.out⟩
             try simp only [Act.put, List.setIfInBounds_toArray, List.set_cons_succ, List.set_cons_zero])
        refine wpCls_nil ?_
        intro W' hw'
        obtain ⟨hg', hd'⟩ : W.grownBy W' (some mp) ∧ DepMap W' mp t := hw'
        have gC := HCELL.out W' hg' C 0 yD hnC
        have HG' := Lib.hid hg'
        have HD' := Lib.hid hd'
        have HGC := Lib.hid gC
        have zW := hg'.size
        have HNO := Lib.hid (find_snoc_none HPRE.out (show t.nextB (bitsL s) (p, q) = false by rw [HNB.out]; simp [g1]))
        simp only [List.drop_succ_cons, List.drop_zero]
        clear hg' hd' gC y1 yC
        gi_wp2
        exact ⟨KeepsFrom.of_grownBy HG'.out (fun j e => by injection e with e; omega), HGC.out, HNO.out, grown_trans HGR.out HG'.out, HD'.out⟩
    case done =>
      rintro D xs W hD rfl ⟨hpre, hgr, hdp⟩ hK
      have HNO := Lib.hid hpre
      have HNE := Lib.hid (show t.nextP (bitsL s) = none by rw [nextP_find, HTE.out]; exact hpre)
      have HE' := Lib.hid (HFL.out W hgr hdp)
      have zW := hgr.size
      have z0 := HE'.out.below
      have t0 := (z0.cell (p := ⟨w.heap.size + 1, 0, none⟩) (by simp <;> omega)).trans (show _ = some (.int .i64 0) by simp [go_sem])
      have t1 := (z0.cell (p := ⟨w.heap.size + 1, 1, none⟩) (by simp <;> omega)).trans (show _ = some (.int .i64 0) by simp [go_sem])
      have t2 := (z0.cell (p := ⟨w.heap.size + 1 + 1, 0, none⟩) (by simp)).trans (show _ = some (.int .i64 0) by simp [go_sem])
      have t3 := (z0.frozen (p := ⟨w.heap.size + 1, 0, none⟩) (by simp <;> omega)).trans (show _ = false by simp [go_sem])
      have t4 := (z0.frozen (p := ⟨w.heap.size + 1, 1, none⟩) (by simp <;> omega)).trans (show _ = false by simp [go_sem])
      have t5 := (z0.frozen (p := ⟨w.heap.size + 1 + 1, 0, none⟩) (by simp)).trans (show _ = false by simp [go_sem])
      have HNS := Lib.hid (next_set (x := .int .i64 0) (y := .int .i64 0) (z := .int .i64 3) (bTrans HB.out HE'.out.below) (show w.heap.size ≤ w.heap.size + 1 by omega) (show w.heap.size + 1 + 1 < W.heap.size by omega) t0 t1 t2 0)
      have hK' := HNS.out.2.2.2.same D _ (Nat.zero_le _) hK rfl
      have HK := Lib.hid hK'
      clear hpre hgr hdp z0 hK hK'
      gi_wp2
      refine ⟨by simp, .inl ⟨_, _, rfl, run_takeDeferred HK.out, ?_⟩⟩
      have c0 := cell_kept (HNS.out.1.cell 0 _ rfl) (grownBy_putObj' _ D (.deferred none)) (fun r e => by cases e; exact ⟨_, HK.out, rfl⟩)
      have c1 := cell_kept (HNS.out.1.cell 1 _ rfl) (grownBy_putObj' _ D (.deferred none)) (fun r e => by cases e; exact ⟨_, HK.out, rfl⟩)
      have c2 := cell_kept (HNS.out.2.1.cell 0 _ rfl) (grownBy_putObj' _ D (.deferred none)) (fun r e => by cases e; exact ⟨_, HK.out, rfl⟩)
      refine ⟨.tuple #[.agg #[.int .i64 0, .int .i64 0], .int .i64 3], ?_, ?_, below_put HNS.out.2.2.1 HNS.out.2.2.1.size (by omega) _⟩
      · simp [results, Tryd.results44, go_sem, c0, c1, c2]
      · unfold Qt.nextOut Qt.nextErr
        rw [if_pos HKE.out, if_pos HKE.out, ← HBM.out, HNE.out]
        rfl
    case stop =>
      rintro D c pre W hD hpre ⟨rfl, x, hf, hx1, hx2, hbel⟩ hK
      have HNE := Lib.hid (show t.nextP (bitsL s) = some x by rw [nextP_find, HTE.out]; exact find_prefix hpre hf)
      have HBL := Lib.hid hbel
      have c0 := cell_kept (hx1.cell 0 _ rfl) (grownBy_putObj' _ D (.deferred none)) (fun r e => by cases e; exact ⟨_, hK, rfl⟩)
      have c1 := cell_kept (hx1.cell 1 _ rfl) (grownBy_putObj' _ D (.deferred none)) (fun r e => by cases e; exact ⟨_, hK, rfl⟩)
      have c2 := cell_kept (hx2.cell 0 _ rfl) (grownBy_putObj' _ D (.deferred none)) (fun r e => by cases e; exact ⟨_, hK, rfl⟩)
      have HK := Lib.hid hK
      clear hbel hf hx1 hx2 hpre hK
      gi_wp2
      refine ⟨by simp, .inl ⟨_, _, rfl, run_takeDeferred HK.out, ?_⟩⟩
      refine ⟨.tuple #[.agg #[.int .i64 x.1, .int .i64 x.2], .int .i64 0], ?_, ?_, below_put HBL.out HBL.out.size (by omega) _⟩
      · simp [results, Tryd.results44, go_sem, c0, c1, c2]
      · unfold Qt.nextOut Qt.nextErr
        rw [if_pos HKE.out, if_pos HKE.out, ← HBM.out, HNE.out]
        rfl
  · have HDO := Lib.hid (show t.nextOut = (0, 0) by unfold Qt.nextOut; rw [if_neg he])
    have HDE := Lib.hid (show t.nextErr = t.knowErr true by unfold Qt.nextErr; rw [if_neg he])
    obtain ⟨er, her⟩ : ∃ er, t.knowErr true = er := ⟨_, rfl⟩
    have HKE := Lib.hid her
    rw [her] at he
    have HNZ := Lib.hid he
    have hd1 : decide (er = 0) = false := by simp [he]
    have hd2 : (er == 0) = false := by simp [he]
    have hd3 : (er != 0) = true := by simp [he]
    clear he her
    gi_wp2
    refine ⟨trivial, (callsIn_wide.2 (openQ_any _ _ _ _ t _ _ hs HT.out)).mono ?_⟩
    rintro e w1 ⟨⟨hk, _⟩, hb1⟩
    rw [HKE.out] at hk
    obtain rfl := hk HNZ.out
    have HB1 := Lib.hid hb1
    have z0 := hb1
    have t0 := (z0.cell (p := ⟨w.heap.size + 1, 0, none⟩) (by simp <;> omega)).trans (show _ = some (.int .i64 0) by simp [go_sem])
    have t1 := (z0.cell (p := ⟨w.heap.size + 1, 1, none⟩) (by simp <;> omega)).trans (show _ = some (.int .i64 0) by simp [go_sem])
    have t2 := (z0.cell (p := ⟨w.heap.size + 1 + 1, 0, none⟩) (by simp)).trans (show _ = some (.int .i64 0) by simp [go_sem])
    have t3 := (z0.frozen (p := ⟨w.heap.size + 1, 0, none⟩) (by simp <;> omega)).trans (show _ = false by simp [go_sem])
    have t4 := (z0.frozen (p := ⟨w.heap.size + 1, 1, none⟩) (by simp <;> omega)).trans (show _ = false by simp [go_sem])
    have t5 := (z0.frozen (p := ⟨w.heap.size + 1 + 1, 0, none⟩) (by simp)).trans (show _ = false by simp [go_sem])
    have zz := z0.size
    simp only [World.size_alloc] at zz
    have hba := bAlloc (Below.refl w1.heap.size w1) (.cells #[.pointer none] 89)
    have HBA := Lib.hid hba
    have u1 : w.heap.size + 1 < w1.heap.size := by omega
    have u2 : w.heap.size + 1 + 1 < w1.heap.size := by omega
    have HNS := Lib.hid (next_set (x := .int .i64 0) (y := .int .i64 0) (z := .int .i64 er) (bTrans HB.out HB1.out) (show w.heap.size ≤ w.heap.size + 1 by omega) u2 t0 t1 t2 0)
    clear hk hb1 z0 hba
    gi_wp2
    have hbw := HNS.out.2.2.1
    have HBW := Lib.hid (bAlloc hbw (.cells #[.pointer none] 89))
    have c0 := (bAlloc (Below.refl _ _) (.cells #[.pointer none] 89)).cell (p := ⟨w.heap.size + 1, 0, none⟩) HNS.out.1.lt |>.trans (HNS.out.1.cell 0 _ rfl)
    have c1 := (bAlloc (Below.refl _ _) (.cells #[.pointer none] 89)).cell (p := ⟨w.heap.size + 1, 1, none⟩) HNS.out.1.lt |>.trans (HNS.out.1.cell 1 _ rfl)
    have c2 := (bAlloc (Below.refl _ _) (.cells #[.pointer none] 89)).cell (p := ⟨w.heap.size + 1 + 1, 0, none⟩) HNS.out.2.1.lt |>.trans (HNS.out.2.1.cell 0 _ rfl)
    refine ⟨.tuple #[.agg #[.int .i64 0, .int .i64 0], .int .i64 er], ?_, ?_, HBW.out⟩
    · simp [results, Tryd.results44, go_sem, c0, c1, c2]
    · rw [HDO.out, HDE.out, HKE.out]
      rfl
end Go.Proofs.YtchhodikgllgnaaDoor
/- The walk of Decide of the package quarrels: its first region, where it ends in an error. Conditions: lengths are Go's; the listed table holds what it holds. -/
namespace Go.Proofs.YtchhodikgllgnaaDoor
open Go.RowKit Go.Sort Go.Shelf
/-- a pointer's box, new -/
def ptrS (v : Value) : Prop := ∃ b, v = .pointer (some ⟨b, 0, none⟩)
def ptrR (base : Nat) (w : World) (v : Value) : Prop := ∀ b, v = .pointer (some ⟨b, 0, none⟩) → base ≤ b ∧ w.heap[b]? = some (.cells #[.pointer none] 89 (0, 0))
theorem ptrG (base : Nat) : (Stir.held ptrS (ptrR base)).good := ⟨⟨_, 0, rfl⟩, fun _ _ _ hb h b e => ⟨(h b e).1, (hb.block b (Array.getElem?_eq_some_iff.1 (h b e).2).1).trans (h b e).2⟩⟩
theorem ptrR_new {base : Nat} {w : World} (h : base ≤ w.heap.size) : ptrR base (w.alloc (.cells #[.pointer none] 89)) (.pointer (some ⟨w.heap.size, 0, none⟩)) := fun b e => by
  obtain rfl : w.heap.size = b := by simpa using e
  exact ⟨h, heap_alloc_new _ _⟩
/-- the tests but one -/
def Qt.others (t : Qt) (x : Tp) : List Tp := t.tests.filter fun y => y != x
/-- what Decide says -/
noncomputable def Qt.decErr (t : Qt) (p q law : Int) : Int :=
  if t.knowErr (t.wellB p && t.wellB q && inR law 0 99) = 0 then (if t.decides (t.others (p.toNat, q.toNat)) t.leftL (p.toNat, q.toNat) law then 0 else 3) else t.knowErr (t.wellB p && t.wellB q && inR law 0 99)
/-- the tests of Decide -/
def Qt.decL (t : Qt) (p q law : Int) : List Tp := fewestL (t.others (p.toNat, q.toNat)) fun l => t.decides l t.leftL (p.toNat, q.toNat) law
theorem wpStir_gcall {P : Program} {md : Region.Mode} {ops : Array Oper} {W : World} {Q : Act → World → Prop} {k : Nat} {o : Oper} {l : List Oper} {c : Value} {hs : List Stir} {a : Act} {F : List (Nat × (World → Prop))} (hw : Region.wanted o (yielded ops a.tmps) = true)
    (h1 : ∀ w', Below W.heap.size W w' → depsP md ops k F w' → Oper.stirAt P o a w' Newer (fun _ v => v = c))
    (h2 : wpStir P md ops W Q (k + 1) l hs (a.put o.dst c) F) : wpStir P md ops W Q k (o :: l) (.const c :: hs) a F := by
  refine wpStir_const ?_ h2
  rw [if_pos hw]
  exact fun p => h1 _ (below_regrown _ _ _)
set_option maxHeartbeats 4000000 in
set_option maxRecDepth 100000 in
theorem decideQ_err (Aw Af : Option Addr) (cw cf : Nat) (t : Qt) (p q law : Int) (w : World) (hs : t.Small) (hT : QAt w Aw Af t) (hne : t.knowErr (t.wellB p && t.wellB q && inR law 0 99) ≠ 0) :
    Calls Tryd.prog 60 #[.agg #[.int .i64 t.wells, .slice Aw t.nw cw, .slice Af t.nf cf], .int .i64 p, .int .i64 q, .int .i64 law] w fun e w' => e = .returned (.tuple #[.slice none 0 0, .int .i64 (t.knowErr (t.wellB p && t.wellB q && inR law 0 99))]) ∧ Below w.heap.size w w' := by
  have hb0 := bAlloc (bAlloc (Below.refl w.heap.size w) (.cells #[.int .i64 t.wells, .slice Aw t.nw cw, .slice Af t.nf cf] 25)) (.cells #[.int .i64 law] 3)
  have HT := Lib.hid (hT.mono hb0)
  have HB := Lib.hid hb0
  clear hT hb0
  obtain ⟨b1, h1⟩ : ∃ b, t.wellB p = b := ⟨_, rfl⟩
  obtain ⟨b2, h2⟩ : ∃ b, t.wellB q = b := ⟨_, rfl⟩
  obtain ⟨b3, h3⟩ : ∃ b, inR law 0 99 = b := ⟨_, rfl⟩
  have HC1 := Lib.hid (fun w => h1 ▸ isWellQ_any Aw Af cw cf t p w : ∀ w : World, Calls Tryd.prog 71 #[.agg #[.int .i64 t.wells, .slice Aw t.nw cw, .slice Af t.nf cf], .int .i64 p] w fun e w' => e = .returned (.bool b1) ∧ Below w.heap.size w w')
  have HC2 := Lib.hid (fun w => h2 ▸ isWellQ_any Aw Af cw cf t q w : ∀ w : World, Calls Tryd.prog 71 #[.agg #[.int .i64 t.wells, .slice Aw t.nw cw, .slice Af t.nf cf], .int .i64 q] w fun e w' => e = .returned (.bool b2) ∧ Below w.heap.size w w')
  have HC3 := Lib.hid (fun w => h3 ▸ isLawQ_any law w : ∀ w : World, Calls Tryd.prog 87 #[.int .i64 law] w fun e w' => e = .returned (.bool b3) ∧ Below w.heap.size w w')
  rw [h1, h2, h3] at hne ⊢
  obtain ⟨bb, hbb⟩ : ∃ bb, (b1 && b2 && b3) = bb := ⟨_, rfl⟩
  rw [hbb] at hne ⊢
  obtain ⟨er, her⟩ : ∃ er, t.knowErr bb = er := ⟨_, rfl⟩
  rw [her] at hne ⊢
  have HCO := Lib.hid (fun (w' : World) (hb : Below ((w.alloc (.cells #[.int .i64 t.wells, .slice Aw t.nw cw, .slice Af t.nf cf] 25)).alloc (.cells #[.int .i64 law] 3)).heap.size ((w.alloc (.cells #[.int .i64 t.wells, .slice Aw t.nw cw, .slice Af t.nf cf] 25)).alloc (.cells #[.int .i64 law] 3)) w') => ((openQ_any Aw Af cw cf t bb w' hs (HT.out.mono hb)).mono fun e w'' h => ⟨(h.1.1 (by rw [her]; exact hne)).trans (by rw [her]), h.2⟩ : Calls Tryd.prog 70 #[.agg #[.int .i64 t.wells, .slice Aw t.nw cw, .slice Af t.nf cf], .bool bb] w' fun e w'' => e = .returned (.tuple #[.pointer none, .int .i64 er]) ∧ Below w'.heap.size w' w''))
  have HG := Lib.hid hbb
  have g0 : (er != 0) = true := by simp [hne]
  clear h1 h2 h3 her hbb hne
  refine (callsIn_wide (n := 9)).1 ?_
  refine callsIn_of_wp Tryd.func60 rfl trivial ?_ rfl
  simp only [Tryd.ntmps60, List.size_toArray, List.length_cons, List.length_nil, Nat.reduceAdd, Nat.reduceSub, Array.replicate_succ, Array.replicate_zero, List.push_toArray, List.append_toArray, List.nil_append, List.cons_append]
  gi_wp2
  rcases three_ways b1 b2 b3 with rfl | ⟨rfl, rfl⟩ | ⟨rfl, rfl, rfl⟩ | ⟨rfl, rfl, rfl⟩
  · obtain rfl := HG.out
    refine wpIn_region_late (openWide _) 18 16 [.const (.agg #[.int .i64 t.wells, .slice Aw t.nw cw, .slice Af t.nf cf]), .const (.agg #[.int .i64 t.wells, .slice Aw t.nw cw, .slice Af t.nf cf]), .const (.int .i64 p), .const (.bool false), .const (.bool false), .const (undef), .const (undef), .const (undef), .const (.bool false), .const (.bool false), .const (undef), .const (undef), .const (.bool false), .const (.tuple #[.pointer none, .int .i64 er]), .const (.tuple #[.pointer none, .int .i64 er]), .const (.pointer none), .const (.int .i64 er), .held ptrS (ptrR w.heap.size)] (by kernel_rfl) (by kernel_rfl) rfl ⟨trivial, trivial, trivial, trivial, trivial, trivial, trivial, trivial, trivial, trivial, trivial, trivial, trivial, trivial, trivial, trivial, trivial, ptrG _, trivial⟩ (crossAll_no _ _ _ _ trivial) rfl rfl rfl (fun _ => ⟨_, _, _, _, rfl, rfl, rfl, rfl⟩) ?_
    iterate 3 refine wpStir_const (by go_simp) ?_
    refine wpStir_call rfl (fun w' hb hd => ?_) ?_
    · clear hd
      go_simp
      refine (HC1.out w').mono ?_
      rintro e w'' ⟨rfl, hb'⟩
      exact ⟨rfl, hb'⟩
    iterate 3 refine wpStir_const (by go_simp) ?_
    refine wpStir_const (by go_simp) ?_
    iterate 3 refine wpStir_const (by go_simp) ?_
    refine wpStir_const (by go_simp) ?_
    refine wpStir_const (by go_simp) ?_
    refine wpStir_call rfl (fun w' hb hd => ?_) ?_
    · clear hd
      go_simp
      refine (HCO.out w' hb).mono ?_
      rintro e w'' ⟨rfl, hb'⟩
      exact ⟨rfl, hb'⟩
    iterate 3 refine wpStir_const (by go_simp) ?_
    refine wpStir_held rfl (fun w' hb hd => ?_) (fun v hv => ?_)
    · clear hd
      go_simp
      exact ⟨bAlloc (Below.refl _ _) _, ⟨_, rfl⟩, ptrR_new (Nat.le_trans HB.out.size hb.size)⟩
    obtain ⟨b, rfl⟩ := hv
    refine wpStir_end (fun w5 hb5 hd => ?_)
    have hp := (hd.1 b rfl).2
    have hpb := (hd.1 b rfl).1
    have hpc : w5.cell? ⟨b, 0, none⟩ = some (.pointer none) := by simp [World.cell?, hp]
    have hpf : w5.frozen? ⟨b, 0, none⟩ = false := by simp [World.frozen?, hp]
    have HBS := Lib.hid (Below.setCell (p := ⟨b, 0, none⟩) (bTrans HB.out hb5) hpb (.pointer none))
    clear hp hb5
    clear hd
    simp only [List.drop_succ_cons, List.drop_zero]
    simp only [Act.put, List.setIfInBounds_toArray, List.set_cons_succ, List.set_cons_zero]
    refine ⟨w5.setCell ⟨b, 0, none⟩ (.pointer none), by go_simp, ?_⟩
    gi_wp2
    refine bodyPost_ret (by simp [results, Tryd.results60]; rfl) rfl ?_
    exact ⟨rfl, HBS.out⟩
  · obtain rfl := HG.out
    refine wpIn_region_late (openWide _) 18 16 [.const (.agg #[.int .i64 t.wells, .slice Aw t.nw cw, .slice Af t.nf cf]), .const (.agg #[.int .i64 t.wells, .slice Aw t.nw cw, .slice Af t.nf cf]), .const (.int .i64 p), .const (.bool true), .const (.bool true), .const ((.agg #[.int .i64 t.wells, .slice Aw t.nw cw, .slice Af t.nf cf])), .const ((.int .i64 q)), .const (.bool false), .const (.bool false), .const (.bool false), .const (undef), .const (undef), .const (.bool false), .const (.tuple #[.pointer none, .int .i64 er]), .const (.tuple #[.pointer none, .int .i64 er]), .const (.pointer none), .const (.int .i64 er), .held ptrS (ptrR w.heap.size)] (by kernel_rfl) (by kernel_rfl) rfl ⟨trivial, trivial, trivial, trivial, trivial, trivial, trivial, trivial, trivial, trivial, trivial, trivial, trivial, trivial, trivial, trivial, trivial, ptrG _, trivial⟩ (crossAll_no _ _ _ _ trivial) rfl rfl rfl (fun _ => ⟨_, _, _, _, rfl, rfl, rfl, rfl⟩) ?_
    iterate 3 refine wpStir_const (by go_simp) ?_
    refine wpStir_call rfl (fun w' hb hd => ?_) ?_
    · clear hd
      go_simp
      refine (HC1.out w').mono ?_
      rintro e w'' ⟨rfl, hb'⟩
      exact ⟨rfl, hb'⟩
    iterate 3 refine wpStir_const (by go_simp) ?_
    refine wpStir_gcall (by kernel_rfl) (fun w' hb hd => ?_) ?_
    · clear hd
      go_simp
      refine (HC2.out w').mono ?_
      rintro e w'' ⟨rfl, hb'⟩
      exact ⟨rfl, hb'⟩
    iterate 3 refine wpStir_const (by go_simp) ?_
    refine wpStir_const (by go_simp) ?_
    refine wpStir_const (by go_simp) ?_
    refine wpStir_call rfl (fun w' hb hd => ?_) ?_
    · clear hd
      go_simp
      refine (HCO.out w' hb).mono ?_
      rintro e w'' ⟨rfl, hb'⟩
      exact ⟨rfl, hb'⟩
    iterate 3 refine wpStir_const (by go_simp) ?_
    refine wpStir_held rfl (fun w' hb hd => ?_) (fun v hv => ?_)
    · clear hd
      go_simp
      exact ⟨bAlloc (Below.refl _ _) _, ⟨_, rfl⟩, ptrR_new (Nat.le_trans HB.out.size hb.size)⟩
    obtain ⟨b, rfl⟩ := hv
    refine wpStir_end (fun w5 hb5 hd => ?_)
    have hp := (hd.1 b rfl).2
    have hpb := (hd.1 b rfl).1
    have hpc : w5.cell? ⟨b, 0, none⟩ = some (.pointer none) := by simp [World.cell?, hp]
    have hpf : w5.frozen? ⟨b, 0, none⟩ = false := by simp [World.frozen?, hp]
    have HBS := Lib.hid (Below.setCell (p := ⟨b, 0, none⟩) (bTrans HB.out hb5) hpb (.pointer none))
    clear hp hb5
    clear hd
    simp only [List.drop_succ_cons, List.drop_zero]
    simp only [Act.put, List.setIfInBounds_toArray, List.set_cons_succ, List.set_cons_zero]
    refine ⟨w5.setCell ⟨b, 0, none⟩ (.pointer none), by go_simp, ?_⟩
    gi_wp2
    refine bodyPost_ret (by simp [results, Tryd.results60]; rfl) rfl ?_
    exact ⟨rfl, HBS.out⟩
  · obtain rfl := HG.out
    refine wpIn_region_late (openWide _) 18 16 [.const (.agg #[.int .i64 t.wells, .slice Aw t.nw cw, .slice Af t.nf cf]), .const (.agg #[.int .i64 t.wells, .slice Aw t.nw cw, .slice Af t.nf cf]), .const (.int .i64 p), .const (.bool true), .const (.bool true), .const ((.agg #[.int .i64 t.wells, .slice Aw t.nw cw, .slice Af t.nf cf])), .const ((.int .i64 q)), .const (.bool true), .const (.bool true), .const (.bool true), .const ((.int .i64 law)), .const (.bool false), .const (.bool false), .const (.tuple #[.pointer none, .int .i64 er]), .const (.tuple #[.pointer none, .int .i64 er]), .const (.pointer none), .const (.int .i64 er), .held ptrS (ptrR w.heap.size)] (by kernel_rfl) (by kernel_rfl) rfl ⟨trivial, trivial, trivial, trivial, trivial, trivial, trivial, trivial, trivial, trivial, trivial, trivial, trivial, trivial, trivial, trivial, trivial, ptrG _, trivial⟩ (crossAll_no _ _ _ _ trivial) rfl rfl rfl (fun _ => ⟨_, _, _, _, rfl, rfl, rfl, rfl⟩) ?_
    iterate 3 refine wpStir_const (by go_simp) ?_
    refine wpStir_call rfl (fun w' hb hd => ?_) ?_
    · clear hd
      go_simp
      refine (HC1.out w').mono ?_
      rintro e w'' ⟨rfl, hb'⟩
      exact ⟨rfl, hb'⟩
    iterate 3 refine wpStir_const (by go_simp) ?_
    refine wpStir_gcall (by kernel_rfl) (fun w' hb hd => ?_) ?_
    · clear hd
      go_simp
      refine (HC2.out w').mono ?_
      rintro e w'' ⟨rfl, hb'⟩
      exact ⟨rfl, hb'⟩
    iterate 3 refine wpStir_const (by go_simp) ?_
    refine wpStir_gcall (by kernel_rfl) (fun w' hb hd => ?_) ?_
    · clear hd
      go_simp
      refine (HC3.out w').mono ?_
      rintro e w'' ⟨rfl, hb'⟩
      exact ⟨rfl, hb'⟩
    refine wpStir_const (by go_simp) ?_
    refine wpStir_call rfl (fun w' hb hd => ?_) ?_
    · clear hd
      go_simp
      refine (HCO.out w' hb).mono ?_
      rintro e w'' ⟨rfl, hb'⟩
      exact ⟨rfl, hb'⟩
    iterate 3 refine wpStir_const (by go_simp) ?_
    refine wpStir_held rfl (fun w' hb hd => ?_) (fun v hv => ?_)
    · clear hd
      go_simp
      exact ⟨bAlloc (Below.refl _ _) _, ⟨_, rfl⟩, ptrR_new (Nat.le_trans HB.out.size hb.size)⟩
    obtain ⟨b, rfl⟩ := hv
    refine wpStir_end (fun w5 hb5 hd => ?_)
    have hp := (hd.1 b rfl).2
    have hpb := (hd.1 b rfl).1
    have hpc : w5.cell? ⟨b, 0, none⟩ = some (.pointer none) := by simp [World.cell?, hp]
    have hpf : w5.frozen? ⟨b, 0, none⟩ = false := by simp [World.frozen?, hp]
    have HBS := Lib.hid (Below.setCell (p := ⟨b, 0, none⟩) (bTrans HB.out hb5) hpb (.pointer none))
    clear hp hb5
    clear hd
    simp only [List.drop_succ_cons, List.drop_zero]
    simp only [Act.put, List.setIfInBounds_toArray, List.set_cons_succ, List.set_cons_zero]
    refine ⟨w5.setCell ⟨b, 0, none⟩ (.pointer none), by go_simp, ?_⟩
    gi_wp2
    refine bodyPost_ret (by simp [results, Tryd.results60]; rfl) rfl ?_
    exact ⟨rfl, HBS.out⟩
  · obtain rfl := HG.out
    refine wpIn_region_late (openWide _) 18 16 [.const (.agg #[.int .i64 t.wells, .slice Aw t.nw cw, .slice Af t.nf cf]), .const (.agg #[.int .i64 t.wells, .slice Aw t.nw cw, .slice Af t.nf cf]), .const (.int .i64 p), .const (.bool true), .const (.bool true), .const ((.agg #[.int .i64 t.wells, .slice Aw t.nw cw, .slice Af t.nf cf])), .const ((.int .i64 q)), .const (.bool true), .const (.bool true), .const (.bool true), .const ((.int .i64 law)), .const (.bool true), .const (.bool true), .const (.tuple #[.pointer none, .int .i64 er]), .const (.tuple #[.pointer none, .int .i64 er]), .const (.pointer none), .const (.int .i64 er), .held ptrS (ptrR w.heap.size)] (by kernel_rfl) (by kernel_rfl) rfl ⟨trivial, trivial, trivial, trivial, trivial, trivial, trivial, trivial, trivial, trivial, trivial, trivial, trivial, trivial, trivial, trivial, trivial, ptrG _, trivial⟩ (crossAll_no _ _ _ _ trivial) rfl rfl rfl (fun _ => ⟨_, _, _, _, rfl, rfl, rfl, rfl⟩) ?_
    iterate 3 refine wpStir_const (by go_simp) ?_
    refine wpStir_call rfl (fun w' hb hd => ?_) ?_
    · clear hd
      go_simp
      refine (HC1.out w').mono ?_
      rintro e w'' ⟨rfl, hb'⟩
      exact ⟨rfl, hb'⟩
    iterate 3 refine wpStir_const (by go_simp) ?_
    refine wpStir_gcall (by kernel_rfl) (fun w' hb hd => ?_) ?_
    · clear hd
      go_simp
      refine (HC2.out w').mono ?_
      rintro e w'' ⟨rfl, hb'⟩
      exact ⟨rfl, hb'⟩
    iterate 3 refine wpStir_const (by go_simp) ?_
    refine wpStir_gcall (by kernel_rfl) (fun w' hb hd => ?_) ?_
    · clear hd
      go_simp
      refine (HC3.out w').mono ?_
      rintro e w'' ⟨rfl, hb'⟩
      exact ⟨rfl, hb'⟩
    refine wpStir_const (by go_simp) ?_
    refine wpStir_call rfl (fun w' hb hd => ?_) ?_
    · clear hd
      go_simp
      refine (HCO.out w' hb).mono ?_
      rintro e w'' ⟨rfl, hb'⟩
      exact ⟨rfl, hb'⟩
    iterate 3 refine wpStir_const (by go_simp) ?_
    refine wpStir_held rfl (fun w' hb hd => ?_) (fun v hv => ?_)
    · clear hd
      go_simp
      exact ⟨bAlloc (Below.refl _ _) _, ⟨_, rfl⟩, ptrR_new (Nat.le_trans HB.out.size hb.size)⟩
    obtain ⟨b, rfl⟩ := hv
    refine wpStir_end (fun w5 hb5 hd => ?_)
    have hp := (hd.1 b rfl).2
    have hpb := (hd.1 b rfl).1
    have hpc : w5.cell? ⟨b, 0, none⟩ = some (.pointer none) := by simp [World.cell?, hp]
    have hpf : w5.frozen? ⟨b, 0, none⟩ = false := by simp [World.frozen?, hp]
    have HBS := Lib.hid (Below.setCell (p := ⟨b, 0, none⟩) (bTrans HB.out hb5) hpb (.pointer none))
    clear hp hb5
    clear hd
    simp only [List.drop_succ_cons, List.drop_zero]
    simp only [Act.put, List.setIfInBounds_toArray, List.set_cons_succ, List.set_cons_zero]
    refine ⟨w5.setCell ⟨b, 0, none⟩ (.pointer none), by go_simp, ?_⟩
    gi_wp2
    refine bodyPost_ret (by simp [results, Tryd.results60]; rfl) rfl ?_
    exact ⟨rfl, HBS.out⟩
end Go.Proofs.YtchhodikgllgnaaDoor
/- The fewest tests, the next test, the tests that decide: laws for the statements of quarrels. Plain Lean. No condition but what is said. -/
namespace Go.Proofs.YtchhodikgllgnaaDoor
open Go.RowKit Go.Sort
/-! ### Tests in order -/
def lexLt (x y : Tp) : Prop := x.1 < y.1 ∨ (x.1 = y.1 ∧ x.2 < y.2)
theorem lexLt_ne {x y : Tp} (h : lexLt x y) : x ≠ y := by
  rintro rfl
  rcases h with h | ⟨_, h⟩ <;> exact absurd h (Nat.lt_irrefl _)
theorem range_pair (n : Nat) : (List.range n).Pairwise (· < ·) := by
  induction n with
  | zero => simp
  | succ n ih =>
    rw [List.range_succ, List.pairwise_append]
    exact ⟨ih, by simp, fun a ha b hb => by simp at ha hb; omega⟩
theorem testsL_pair (m : Nat) : (testsL m).Pairwise lexLt := by
  have key : ∀ k, ((List.range k).flatMap fun p => (List.range m).map fun q => (p, q)).Pairwise lexLt := fun k => by
    induction k with
    | zero => simp
    | succ k ih =>
      rw [List.range_succ, List.flatMap_append, List.pairwise_append]
      refine ⟨ih, ?_, fun a ha b hb => ?_⟩
      · simp only [List.flatMap_cons, List.flatMap_nil, List.append_nil]
        rw [List.pairwise_map]
        exact (range_pair m).imp fun h => .inr ⟨rfl, h⟩
      · simp only [List.flatMap_cons, List.flatMap_nil, List.append_nil, List.mem_map] at hb
        obtain ⟨q, _, rfl⟩ := hb
        obtain ⟨p, hp, ha⟩ := List.mem_flatMap.1 ha
        obtain ⟨q', _, rfl⟩ := List.mem_map.1 ha
        exact .inl (by simpa using hp)
  exact key m
theorem tests_pair (t : Qt) : t.tests.Pairwise lexLt := testsL_pair _
theorem pair_nodup {l : List Tp} (h : l.Pairwise lexLt) : l.Nodup := h.imp fun h => lexLt_ne h
theorem nodup_len {s : List Tp} : ∀ {l : List Tp}, s.Nodup → (∀ x, x ∈ s → x ∈ l) → s.length ≤ l.length := by
  induction s with
  | nil => exact fun _ _ => Nat.zero_le _
  | cons x s ih =>
    intro l hn hs
    rw [List.nodup_cons] at hn
    have hx := hs x (by simp)
    have h1 := ih (l := l.erase x) hn.2 fun y hy => (List.mem_erase_of_ne fun e => hn.1 (by rw [← e]; exact hy)).2 (hs y (by simp [hy]))
    rw [List.length_erase_of_mem hx] at h1
    have h2 := List.length_pos_of_mem hx
    simp only [List.length_cons]
    omega
/-- tests of a town, in order -/
theorem sub_tests {t : Qt} {l : List Tp} (h : List.Sublist l t.tests) : (∀ x, x ∈ l → x ∈ t.tests) ∧ l.length ≤ t.wells.toNat * t.wells.toNat ∧ l.Pairwise lexLt :=
  ⟨fun x hx => h.subset hx, by have := h.length_le; unfold Qt.tests at this; rw [testsL_len] at this; exact this, (tests_pair t).sublist h⟩
/-! ### The fewest tests -/
theorem fewest_sub (t : Qt) (L : List Int) : List.Sublist (t.fewest L) t.tests := (fewest_spec t.tests (fun l => t.allApart l L) (allApart_tests t L)).1
theorem fewest_all (t : Qt) (L : List Int) : t.allApart (t.fewest L) L = true := (fewest_spec t.tests (fun l => t.allApart l L) (allApart_tests t L)).2.1
theorem allApart_sub {t : Qt} {l l' : List Tp} {L : List Int} (h : ∀ x, x ∈ l → x ∈ l') (ha : t.allApart l L = true) : t.allApart l' L = true :=
  allApart_iff.2 fun a h1 b h2 hs => someB_sub h (allApart_iff.1 ha a h1 b h2 hs)
theorem fewest_min {t : Qt} {L : List Int} {l : List Tp} (hl : ∀ x, x ∈ l → x ∈ t.tests) (ha : t.allApart l L = true) : (t.fewest L).length ≤ l.length := by
  have h1 := (fewest_spec t.tests (fun l => t.allApart l L) (allApart_tests t L)).2.2 (t.tests.filter fun x => decide (x ∈ l)) List.filter_sublist (allApart_sub (fun x hx => List.mem_filter.2 ⟨hl x hx, by simpa using hx⟩) ha)
  have h2 := nodup_len (s := t.tests.filter fun x => decide (x ∈ l)) (l := l) ((pair_nodup (tests_pair t)).sublist List.filter_sublist) fun x hx => by simpa using (List.mem_filter.1 hx).2
  exact Nat.le_trans h1 h2
theorem fewest_tight {t : Qt} {L : List Int} {i : Nat} (hi : i < (t.fewest L).length) : t.allApart ((t.fewest L).take i ++ (t.fewest L).drop (i + 1)) L = false := by
  cases h : t.allApart ((t.fewest L).take i ++ (t.fewest L).drop (i + 1)) L with
  | false => rfl
  | true =>
    have h1 := fewest_min (fun x hx => by
      rcases List.mem_append.1 hx with hx | hx
      · exact (fewest_sub t L).subset (List.mem_of_mem_take hx)
      · exact (fewest_sub t L).subset (List.mem_of_mem_drop hx)) h
    simp at h1
    omega
/-! ### The next test -/
theorem nextP_eq {t : Qt} {L : List Int} (hf : t.Falls L) (hl : L.length ≤ 100) : t.nextP L = t.next L := by
  unfold Qt.nextP Qt.next
  split
  · rename_i h0
    have hal : t.allApart [] L = false := by
      cases hal : t.allApart [] L with
      | false => rfl
      | true => rw [depth_step, hal] at h0; simp at h0
    have hne : L ≠ [] := by
      rintro rfl
      rw [allApart_short (by simp)] at hal
      cases hal
    have hlt := depth_below t hne
    refine find_congr fun x hx => ?_
    have hle : t.depth L ≤ 1 + t.behind x L := by
      rw [depth_step, hal, if_neg (by decide)]
      exact minF_le.2 (.inr ⟨x, hx, Int.le_refl _⟩)
    by_cases hs : ∃ a, a ∈ L ∧ ∃ b, b ∈ L ∧ t.F a x ≠ t.F b x
    · obtain ⟨a, ha, b, hb, hab⟩ := hs
      have h1 := (behind_split (fun L'' _ h2 => depth_below t h2) ha hb hab).1
      have h2 : t.afterP x L = t.behind x L := by
        rw [h1]
        unfold Qt.afterP
        rw [anyB_false.2 fun f _ => ?_]
        · rfl
        · cases he : t.shown x L f == L with
          | false => rfl
          | true =>
            have := eq_of_beq he
            exact absurd (shown_one (by rw [this]) ha hb) hab
      rw [h2]
      refine Bool.eq_iff_iff.2 ?_
      simp only [beq_iff_eq, decide_eq_true_eq]
      omega
    · have h' : ∀ a, a ∈ L → ∀ b, b ∈ L → t.F a x = t.F b x := fun a ha b hb => Classical.byContradiction fun hne => hs ⟨a, ha, b, hb, hne⟩
      obtain ⟨h1, f, hf1, hf2⟩ := behind_none hf hx hne h'
      have h2 : t.afterP x L = 1024 := by
        unfold Qt.afterP
        rw [if_pos (anyB_true.2 ⟨f, hf1, by rw [hf2]; simp⟩)]
      rw [h1, h2]
      refine Bool.eq_iff_iff.2 ?_
      simp only [beq_iff_eq, decide_eq_true_eq]
      omega
  · rfl
theorem depth_zero {t : Qt} {L : List Int} : t.depth L = 0 ↔ t.allApart [] L = true := by
  constructor
  · intro h
    cases hal : t.allApart [] L with
    | true => rfl
    | false =>
      have hne : L ≠ [] := by
        rintro rfl
        rw [allApart_short (by simp)] at hal
        cases hal
      have hst := depth_step t L
      rw [hal, if_neg (by decide)] at hst
      rcases minF_le.1 (Int.le_of_eq hst.symm) with h3 | ⟨x, hx, h3⟩
      · have := List.length_pos_iff.2 hne
        omega
      · have := behind_nonneg t x L
        omega
  · intro h
    rw [depth_step, h]
    rfl
theorem next_zero {t : Qt} {L : List Int} : (t.next L).isSome = decide (0 < t.depth L) := by
  cases h : t.next L with
  | none => rw [next_none h]; rfl
  | some x =>
    obtain ⟨_, h2, _⟩ := next_some h
    have := behind_nonneg t x L
    simp
    omega
/-- behind the next test: at the worst one less -/
theorem next_behind {t : Qt} {L : List Int} (hf : t.Falls L) {x : Tp} (h : t.next L = some x) : maxTo (fun f : Nat => t.depth (t.shown x L f)) 10 = t.depth L - 1 := by
  obtain ⟨h1, h2, h3⟩ := next_some h
  have hne : L ≠ [] := by
    rintro rfl
    rw [allApart_short (by simp)] at h3
    cases h3
  have hlt := depth_below t hne
  by_cases hs : ∃ a, a ∈ L ∧ ∃ b, b ∈ L ∧ t.F a x ≠ t.F b x
  · obtain ⟨a, ha, b, hb, hab⟩ := hs
    rw [← (behind_split (fun L'' _ h2 => depth_below t h2) ha hb hab).1]
    omega
  · have h' : ∀ a, a ∈ L → ∀ b, b ∈ L → t.F a x = t.F b x := fun a ha b hb => Classical.byContradiction fun hne => hs ⟨a, ha, b, hb, hne⟩
    have := (behind_none hf h1 hne h').1
    omega
/-! ### The tests that decide -/
theorem others_sub (t : Qt) (x : Tp) : List.Sublist (t.others x) t.tests := List.filter_sublist
theorem fewestL_sub (l : List Tp) (p : List Tp → Bool) : List.Sublist (fewestL l p) l := by
  unfold fewestL
  cases hf : firstUpTo l p 0 l.length with
  | some x => exact ((firstUpTo_spec l p l.length 0).1 x hf).1
  | none => exact List.Sublist.refl _
end Go.Proofs.YtchhodikgllgnaaDoor
/- Draws together, none, and twice: laws for the statements of quarrels. Plain Lean. No condition but what is said. -/
namespace Go.Proofs.YtchhodikgllgnaaDoor
open Go.RowKit Go.Sort
/-! ### Who is blamed -/
end Go.Proofs.YtchhodikgllgnaaDoor
