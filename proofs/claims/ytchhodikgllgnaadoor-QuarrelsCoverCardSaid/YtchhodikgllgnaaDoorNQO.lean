/- Parts joined. -/
import Derived.Test.YtchhodikgllgnaaDoorNQI
import Derived.Test.YtchhodikgllgnaaDoorNQM
import Derived.Test.YtchhodikgllgnaaDoorNQL
import Derived.Test.YtchhodikgllgnaaDoorNQN
import Derived.Test.YtchhodikgllgnaaDoorNQF
set_option linter.unusedSimpArgs false
set_option linter.unusedVariables false
/- The walk of Decide of the package quarrels: its first region, where it ends in an error. Conditions: lengths are Go's; the listed table holds what it holds. -/
namespace Go.Proofs.YtchhodikgllgnaaDoor
open Go.RowKit Go.Sort Go.Shelf
/-- a pointer's box, new -/
def ptrS (v : Value) : Prop := ∃ b, v = .pointer (some ⟨b, 0, none⟩)
def ptrR (base : Nat) (w : World) (v : Value) : Prop := ∀ b, v = .pointer (some ⟨b, 0, none⟩) → base ≤ b ∧ w.heap[b]? = some (.cells #[.pointer none] 89 (0, 0))
theorem ptrG (base : Nat) : (Stir.held ptrS (ptrR base)).good := ⟨⟨_, 0, rfl⟩, fun _ _ _ hb h b e => ⟨(h b e).1, (hb.block b (Array.getElem?_eq_some_iff.1 (h b e).2).1).trans (h b e).2⟩⟩
theorem ptrR_new {base : Nat} {w : World} (h : base ≤ w.heap.size) : ptrR base (w.alloc (.cells #[.pointer none] 89)) (.pointer (some ⟨w.heap.size, 0, none⟩)) := fun b e => by
  obtain rfl : w.heap.size = b := by simpa using e
  exact ⟨h, heap_alloc_new _ _⟩
/-- the tests but one -/
def Qt.others (t : Qt) (x : Tp) : List Tp := t.tests.filter fun y => y != x
/-- what Decide says -/
noncomputable def Qt.decErr (t : Qt) (p q law : Int) : Int :=
  if t.knowErr (t.wellB p && t.wellB q && inR law 0 99) = 0 then (if t.decides (t.others (p.toNat, q.toNat)) t.leftL (p.toNat, q.toNat) law then 0 else 3) else t.knowErr (t.wellB p && t.wellB q && inR law 0 99)
/-- the tests of Decide -/
def Qt.decL (t : Qt) (p q law : Int) : List Tp := fewestL (t.others (p.toNat, q.toNat)) fun l => t.decides l t.leftL (p.toNat, q.toNat) law
theorem wpStir_gcall {P : Program} {md : Region.Mode} {ops : Array Oper} {W : World} {Q : Act → World → Prop} {k : Nat} {o : Oper} {l : List Oper} {c : Value} {hs : List Stir} {a : Act} {F : List (Nat × (World → Prop))} (hw : Region.wanted o (yielded ops a.tmps) = true)
    (h1 : ∀ w', Below W.heap.size W w' → depsP md ops k F w' → Oper.stirAt P o a w' Newer (fun _ v => v = c))
    (h2 : wpStir P md ops W Q (k + 1) l hs (a.put o.dst c) F) : wpStir P md ops W Q k (o :: l) (.const c :: hs) a F := by
  refine wpStir_const ?_ h2
  rw [if_pos hw]
  exact fun p => h1 _ (below_regrown _ _ _)
set_option maxHeartbeats 4000000 in
set_option maxRecDepth 100000 in
theorem decideQ_err (Aw Af : Option Addr) (cw cf : Nat) (t : Qt) (p q law : Int) (w : World) (hs : t.Small) (hT : QAt w Aw Af t) (hne : t.knowErr (t.wellB p && t.wellB q && inR law 0 99) ≠ 0) :
    Calls Tryd.prog 60 #[.agg #[.int .i64 t.wells, .slice Aw t.nw cw, .slice Af t.nf cf], .int .i64 p, .int .i64 q, .int .i64 law] w fun e w' => e = .returned (.tuple #[.slice none 0 0, .int .i64 (t.knowErr (t.wellB p && t.wellB q && inR law 0 99))]) ∧ Below w.heap.size w w' := by
  have hb0 := bAlloc (bAlloc (Below.refl w.heap.size w) (.cells #[.int .i64 t.wells, .slice Aw t.nw cw, .slice Af t.nf cf] 25)) (.cells #[.int .i64 law] 3)
  have HT := Lib.hid (hT.mono hb0)
  have HB := Lib.hid hb0
  clear hT hb0
  obtain ⟨b1, h1⟩ : ∃ b, t.wellB p = b := ⟨_, rfl⟩
  obtain ⟨b2, h2⟩ : ∃ b, t.wellB q = b := ⟨_, rfl⟩
  obtain ⟨b3, h3⟩ : ∃ b, inR law 0 99 = b := ⟨_, rfl⟩
  have HC1 := Lib.hid (fun w => h1 ▸ isWellQ_any Aw Af cw cf t p w : ∀ w : World, Calls Tryd.prog 71 #[.agg #[.int .i64 t.wells, .slice Aw t.nw cw, .slice Af t.nf cf], .int .i64 p] w fun e w' => e = .returned (.bool b1) ∧ Below w.heap.size w w')
  have HC2 := Lib.hid (fun w => h2 ▸ isWellQ_any Aw Af cw cf t q w : ∀ w : World, Calls Tryd.prog 71 #[.agg #[.int .i64 t.wells, .slice Aw t.nw cw, .slice Af t.nf cf], .int .i64 q] w fun e w' => e = .returned (.bool b2) ∧ Below w.heap.size w w')
  have HC3 := Lib.hid (fun w => h3 ▸ isLawQ_any law w : ∀ w : World, Calls Tryd.prog 87 #[.int .i64 law] w fun e w' => e = .returned (.bool b3) ∧ Below w.heap.size w w')
  rw [h1, h2, h3] at hne ⊢
  obtain ⟨bb, hbb⟩ : ∃ bb, (b1 && b2 && b3) = bb := ⟨_, rfl⟩
  rw [hbb] at hne ⊢
  obtain ⟨er, her⟩ : ∃ er, t.knowErr bb = er := ⟨_, rfl⟩
  rw [her] at hne ⊢
  have HCO := Lib.hid (fun (w' : World) (hb : Below ((w.alloc (.cells #[.int .i64 t.wells, .slice Aw t.nw cw, .slice Af t.nf cf] 25)).alloc (.cells #[.int .i64 law] 3)).heap.size ((w.alloc (.cells #[.int .i64 t.wells, .slice Aw t.nw cw, .slice Af t.nf cf] 25)).alloc (.cells #[.int .i64 law] 3)) w') => ((openQ_any Aw Af cw cf t bb w' hs (HT.out.mono hb)).mono fun e w'' h => ⟨(h.1.1 (by rw [her]; exact hne)).trans (by rw [her]), h.2⟩ : Calls Tryd.prog 70 #[.agg #[.int .i64 t.wells, .slice Aw t.nw cw, .slice Af t.nf cf], .bool bb] w' fun e w'' => e = .returned (.tuple #[.pointer none, .int .i64 er]) ∧ Below w'.heap.size w' w''))
  have HG := Lib.hid hbb
  have g0 : (er != 0) = true := by simp [hne]
  clear h1 h2 h3 her hbb hne
  refine (callsIn_wide (n := 9)).1 ?_
  refine callsIn_of_wp Tryd.func60 rfl trivial ?_ rfl
  simp only [Tryd.ntmps60, List.size_toArray, List.length_cons, List.length_nil, Nat.reduceAdd, Nat.reduceSub, Array.replicate_succ, Array.replicate_zero, List.push_toArray, List.append_toArray, List.nil_append, List.cons_append]
  gi_wp2
  rcases three_ways b1 b2 b3 with rfl | ⟨rfl, rfl⟩ | ⟨rfl, rfl, rfl⟩ | ⟨rfl, rfl, rfl⟩
  · obtain rfl := HG.out
    refine wpIn_region_late (openWide _) 18 16 [.const (.agg #[.int .i64 t.wells, .slice Aw t.nw cw, .slice Af t.nf cf]), .const (.agg #[.int .i64 t.wells, .slice Aw t.nw cw, .slice Af t.nf cf]), .const (.int .i64 p), .const (.bool false), .const (.bool false), .const (undef), .const (undef), .const (undef), .const (.bool false), .const (.bool false), .const (undef), .const (undef), .const (.bool false), .const (.tuple #[.pointer none, .int .i64 er]), .const (.tuple #[.pointer none, .int .i64 er]), .const (.pointer none), .const (.int .i64 er), .held ptrS (ptrR w.heap.size)] (by kernel_rfl) (by kernel_rfl) rfl ⟨trivial, trivial, trivial, trivial, trivial, trivial, trivial, trivial, trivial, trivial, trivial, trivial, trivial, trivial, trivial, trivial, trivial, ptrG _, trivial⟩ (crossAll_no _ _ _ _ trivial) rfl rfl rfl (fun _ => ⟨_, _, _, _, rfl, rfl, rfl, rfl⟩) ?_
    iterate 3 refine wpStir_const (by go_simp) ?_
    refine wpStir_call rfl (fun w' hb hd => ?_) ?_
    · clear hd
      go_simp
      refine (HC1.out w').mono ?_
      rintro e w'' ⟨rfl, hb'⟩
      exact ⟨rfl, hb'⟩
    iterate 3 refine wpStir_const (by go_simp) ?_
    refine wpStir_const (by go_simp) ?_
    iterate 3 refine wpStir_const (by go_simp) ?_
    refine wpStir_const (by go_simp) ?_
    refine wpStir_const (by go_simp) ?_
    refine wpStir_call rfl (fun w' hb hd => ?_) ?_
    · clear hd
      go_simp
      refine (HCO.out w' hb).mono ?_
      rintro e w'' ⟨rfl, hb'⟩
      exact ⟨rfl, hb'⟩
    iterate 3 refine wpStir_const (by go_simp) ?_
    refine wpStir_held rfl (fun w' hb hd => ?_) (fun v hv => ?_)
    · clear hd
      go_simp
      exact ⟨bAlloc (Below.refl _ _) _, ⟨_, rfl⟩, ptrR_new (Nat.le_trans HB.out.size hb.size)⟩
    obtain ⟨b, rfl⟩ := hv
    refine wpStir_end (fun w5 hb5 hd => ?_)
    have hp := (hd.1 b rfl).2
    have hpb := (hd.1 b rfl).1
    have hpc : w5.cell? ⟨b, 0, none⟩ = some (.pointer none) := by simp [World.cell?, hp]
    have hpf : w5.frozen? ⟨b, 0, none⟩ = false := by simp [World.frozen?, hp]
    have HBS := Lib.hid (Below.setCell (p := ⟨b, 0, none⟩) (bTrans HB.out hb5) hpb (.pointer none))
    clear hp hb5
    clear hd
    simp only [List.drop_succ_cons, List.drop_zero]
    simp only [Act.put, List.setIfInBounds_toArray, List.set_cons_succ, List.set_cons_zero]
    refine ⟨w5.setCell ⟨b, 0, none⟩ (.pointer none), by go_simp, ?_⟩
    gi_wp2
    refine bodyPost_ret (by simp [results, Tryd.results60]; rfl) rfl ?_
    exact ⟨rfl, HBS.out⟩
  · obtain rfl := HG.out
    refine wpIn_region_late (openWide _) 18 16 [.const (.agg #[.int .i64 t.wells, .slice Aw t.nw cw, .slice Af t.nf cf]), .const (.agg #[.int .i64 t.wells, .slice Aw t.nw cw, .slice Af t.nf cf]), .const (.int .i64 p), .const (.bool true), .const (.bool true), .const ((.agg #[.int .i64 t.wells, .slice Aw t.nw cw, .slice Af t.nf cf])), .const ((.int .i64 q)), .const (.bool false), .const (.bool false), .const (.bool false), .const (undef), .const (undef), .const (.bool false), .const (.tuple #[.pointer none, .int .i64 er]), .const (.tuple #[.pointer none, .int .i64 er]), .const (.pointer none), .const (.int .i64 er), .held ptrS (ptrR w.heap.size)] (by kernel_rfl) (by kernel_rfl) rfl ⟨trivial, trivial, trivial, trivial, trivial, trivial, trivial, trivial, trivial, trivial, trivial, trivial, trivial, trivial, trivial, trivial, trivial, ptrG _, trivial⟩ (crossAll_no _ _ _ _ trivial) rfl rfl rfl (fun _ => ⟨_, _, _, _, rfl, rfl, rfl, rfl⟩) ?_
    iterate 3 refine wpStir_const (by go_simp) ?_
    refine wpStir_call rfl (fun w' hb hd => ?_) ?_
    · clear hd
      go_simp
      refine (HC1.out w').mono ?_
      rintro e w'' ⟨rfl, hb'⟩
      exact ⟨rfl, hb'⟩
    iterate 3 refine wpStir_const (by go_simp) ?_
    refine wpStir_gcall (by kernel_rfl) (fun w' hb hd => ?_) ?_
    · clear hd
      go_simp
      refine (HC2.out w').mono ?_
      rintro e w'' ⟨rfl, hb'⟩
      exact ⟨rfl, hb'⟩
    iterate 3 refine wpStir_const (by go_simp) ?_
    refine wpStir_const (by go_simp) ?_
    refine wpStir_const (by go_simp) ?_
    refine wpStir_call rfl (fun w' hb hd => ?_) ?_
    · clear hd
      go_simp
      refine (HCO.out w' hb).mono ?_
      rintro e w'' ⟨rfl, hb'⟩
      exact ⟨rfl, hb'⟩
    iterate 3 refine wpStir_const (by go_simp) ?_
    refine wpStir_held rfl (fun w' hb hd => ?_) (fun v hv => ?_)
    · clear hd
      go_simp
      exact ⟨bAlloc (Below.refl _ _) _, ⟨_, rfl⟩, ptrR_new (Nat.le_trans HB.out.size hb.size)⟩
    obtain ⟨b, rfl⟩ := hv
    refine wpStir_end (fun w5 hb5 hd => ?_)
    have hp := (hd.1 b rfl).2
    have hpb := (hd.1 b rfl).1
    have hpc : w5.cell? ⟨b, 0, none⟩ = some (.pointer none) := by simp [World.cell?, hp]
    have hpf : w5.frozen? ⟨b, 0, none⟩ = false := by simp [World.frozen?, hp]
    have HBS := Lib.hid (Below.setCell (p := ⟨b, 0, none⟩) (bTrans HB.out hb5) hpb (.pointer none))
    clear hp hb5
    clear hd
    simp only [List.drop_succ_cons, List.drop_zero]
    simp only [Act.put, List.setIfInBounds_toArray, List.set_cons_succ, List.set_cons_zero]
    refine ⟨w5.setCell ⟨b, 0, none⟩ (.pointer none), by go_simp, ?_⟩
    gi_wp2
    refine bodyPost_ret (by simp [results, Tryd.results60]; rfl) rfl ?_
    exact ⟨rfl, HBS.out⟩
  · obtain rfl := HG.out
    refine wpIn_region_late (openWide _) 18 16 [.const (.agg #[.int .i64 t.wells, .slice Aw t.nw cw, .slice Af t.nf cf]), .const (.agg #[.int .i64 t.wells, .slice Aw t.nw cw, .slice Af t.nf cf]), .const (.int .i64 p), .const (.bool true), .const (.bool true), .const ((.agg #[.int .i64 t.wells, .slice Aw t.nw cw, .slice Af t.nf cf])), .const ((.int .i64 q)), .const (.bool true), .const (.bool true), .const (.bool true), .const ((.int .i64 law)), .const (.bool false), .const (.bool false), .const (.tuple #[.pointer none, .int .i64 er]), .const (.tuple #[.pointer none, .int .i64 er]), .const (.pointer none), .const (.int .i64 er), .held ptrS (ptrR w.heap.size)] (by kernel_rfl) (by kernel_rfl) rfl ⟨trivial, trivial, trivial, trivial, trivial, trivial, trivial, trivial, trivial, trivial, trivial, trivial, trivial, trivial, trivial, trivial, trivial, ptrG _, trivial⟩ (crossAll_no _ _ _ _ trivial) rfl rfl rfl (fun _ => ⟨_, _, _, _, rfl, rfl, rfl, rfl⟩) ?_
    iterate 3 refine wpStir_const (by go_simp) ?_
    refine wpStir_call rfl (fun w' hb hd => ?_) ?_
    · clear hd
      go_simp
      refine (HC1.out w').mono ?_
      rintro e w'' ⟨rfl, hb'⟩
      exact ⟨rfl, hb'⟩
    iterate 3 refine wpStir_const (by go_simp) ?_
    refine wpStir_gcall (by kernel_rfl) (fun w' hb hd => ?_) ?_
    · clear hd
      go_simp
      refine (HC2.out w').mono ?_
      rintro e w'' ⟨rfl, hb'⟩
      exact ⟨rfl, hb'⟩
    iterate 3 refine wpStir_const (by go_simp) ?_
    refine wpStir_gcall (by kernel_rfl) (fun w' hb hd => ?_) ?_
    · clear hd
      go_simp
      refine (HC3.out w').mono ?_
      rintro e w'' ⟨rfl, hb'⟩
      exact ⟨rfl, hb'⟩
    refine wpStir_const (by go_simp) ?_
    refine wpStir_call rfl (fun w' hb hd => ?_) ?_
    · clear hd
      go_simp
      refine (HCO.out w' hb).mono ?_
      rintro e w'' ⟨rfl, hb'⟩
      exact ⟨rfl, hb'⟩
    iterate 3 refine wpStir_const (by go_simp) ?_
    refine wpStir_held rfl (fun w' hb hd => ?_) (fun v hv => ?_)
    · clear hd
      go_simp
      exact ⟨bAlloc (Below.refl _ _) _, ⟨_, rfl⟩, ptrR_new (Nat.le_trans HB.out.size hb.size)⟩
    obtain ⟨b, rfl⟩ := hv
    refine wpStir_end (fun w5 hb5 hd => ?_)
    have hp := (hd.1 b rfl).2
    have hpb := (hd.1 b rfl).1
    have hpc : w5.cell? ⟨b, 0, none⟩ = some (.pointer none) := by simp [World.cell?, hp]
    have hpf : w5.frozen? ⟨b, 0, none⟩ = false := by simp [World.frozen?, hp]
    have HBS := Lib.hid (Below.setCell (p := ⟨b, 0, none⟩) (bTrans HB.out hb5) hpb (.pointer none))
    clear hp hb5
    clear hd
    simp only [List.drop_succ_cons, List.drop_zero]
    simp only [Act.put, List.setIfInBounds_toArray, List.set_cons_succ, List.set_cons_zero]
    refine ⟨w5.setCell ⟨b, 0, none⟩ (.pointer none), by go_simp, ?_⟩
    gi_wp2
    refine bodyPost_ret (by simp [results, Tryd.results60]; rfl) rfl ?_
    exact ⟨rfl, HBS.out⟩
  · obtain rfl := HG.out
    refine wpIn_region_late (openWide _) 18 16 [.const (.agg #[.int .i64 t.wells, .slice Aw t.nw cw, .slice Af t.nf cf]), .const (.agg #[.int .i64 t.wells, .slice Aw t.nw cw, .slice Af t.nf cf]), .const (.int .i64 p), .const (.bool true), .const (.bool true), .const ((.agg #[.int .i64 t.wells, .slice Aw t.nw cw, .slice Af t.nf cf])), .const ((.int .i64 q)), .const (.bool true), .const (.bool true), .const (.bool true), .const ((.int .i64 law)), .const (.bool true), .const (.bool true), .const (.tuple #[.pointer none, .int .i64 er]), .const (.tuple #[.pointer none, .int .i64 er]), .const (.pointer none), .const (.int .i64 er), .held ptrS (ptrR w.heap.size)] (by kernel_rfl) (by kernel_rfl) rfl ⟨trivial, trivial, trivial, trivial, trivial, trivial, trivial, trivial, trivial, trivial, trivial, trivial, trivial, trivial, trivial, trivial, trivial, ptrG _, trivial⟩ (crossAll_no _ _ _ _ trivial) rfl rfl rfl (fun _ => ⟨_, _, _, _, rfl, rfl, rfl, rfl⟩) ?_
    iterate 3 refine wpStir_const (by go_simp) ?_
    refine wpStir_call rfl (fun w' hb hd => ?_) ?_
    · clear hd
      go_simp
      refine (HC1.out w').mono ?_
      rintro e w'' ⟨rfl, hb'⟩
      exact ⟨rfl, hb'⟩
    iterate 3 refine wpStir_const (by go_simp) ?_
    refine wpStir_gcall (by kernel_rfl) (fun w' hb hd => ?_) ?_
    · clear hd
      go_simp
      refine (HC2.out w').mono ?_
      rintro e w'' ⟨rfl, hb'⟩
      exact ⟨rfl, hb'⟩
    iterate 3 refine wpStir_const (by go_simp) ?_
    refine wpStir_gcall (by kernel_rfl) (fun w' hb hd => ?_) ?_
    · clear hd
      go_simp
      refine (HC3.out w').mono ?_
      rintro e w'' ⟨rfl, hb'⟩
      exact ⟨rfl, hb'⟩
    refine wpStir_const (by go_simp) ?_
    refine wpStir_call rfl (fun w' hb hd => ?_) ?_
    · clear hd
      go_simp
      refine (HCO.out w' hb).mono ?_
      rintro e w'' ⟨rfl, hb'⟩
      exact ⟨rfl, hb'⟩
    iterate 3 refine wpStir_const (by go_simp) ?_
    refine wpStir_held rfl (fun w' hb hd => ?_) (fun v hv => ?_)
    · clear hd
      go_simp
      exact ⟨bAlloc (Below.refl _ _) _, ⟨_, rfl⟩, ptrR_new (Nat.le_trans HB.out.size hb.size)⟩
    obtain ⟨b, rfl⟩ := hv
    refine wpStir_end (fun w5 hb5 hd => ?_)
    have hp := (hd.1 b rfl).2
    have hpb := (hd.1 b rfl).1
    have hpc : w5.cell? ⟨b, 0, none⟩ = some (.pointer none) := by simp [World.cell?, hp]
    have hpf : w5.frozen? ⟨b, 0, none⟩ = false := by simp [World.frozen?, hp]
    have HBS := Lib.hid (Below.setCell (p := ⟨b, 0, none⟩) (bTrans HB.out hb5) hpb (.pointer none))
    clear hp hb5
    clear hd
    simp only [List.drop_succ_cons, List.drop_zero]
    simp only [Act.put, List.setIfInBounds_toArray, List.set_cons_succ, List.set_cons_zero]
    refine ⟨w5.setCell ⟨b, 0, none⟩ (.pointer none), by go_simp, ?_⟩
    gi_wp2
    refine bodyPost_ret (by simp [results, Tryd.results60]; rfl) rfl ?_
    exact ⟨rfl, HBS.out⟩
end Go.Proofs.YtchhodikgllgnaaDoor
/- The fewest tests, the next test, the tests that decide: laws for the statements of quarrels. Plain Lean. No condition but what is said. -/
namespace Go.Proofs.YtchhodikgllgnaaDoor
open Go.RowKit Go.Sort
/-! ### Tests in order -/
def lexLt (x y : Tp) : Prop := x.1 < y.1 ∨ (x.1 = y.1 ∧ x.2 < y.2)
theorem lexLt_ne {x y : Tp} (h : lexLt x y) : x ≠ y := by
  rintro rfl
  rcases h with h | ⟨_, h⟩ <;> exact absurd h (Nat.lt_irrefl _)
theorem range_pair (n : Nat) : (List.range n).Pairwise (· < ·) := by
  induction n with
  | zero => simp
  | succ n ih =>
    rw [List.range_succ, List.pairwise_append]
    exact ⟨ih, by simp, fun a ha b hb => by simp at ha hb; omega⟩
theorem testsL_pair (m : Nat) : (testsL m).Pairwise lexLt := by
  have key : ∀ k, ((List.range k).flatMap fun p => (List.range m).map fun q => (p, q)).Pairwise lexLt := fun k => by
    induction k with
    | zero => simp
    | succ k ih =>
      rw [List.range_succ, List.flatMap_append, List.pairwise_append]
      refine ⟨ih, ?_, fun a ha b hb => ?_⟩
      · simp only [List.flatMap_cons, List.flatMap_nil, List.append_nil]
        rw [List.pairwise_map]
        exact (range_pair m).imp fun h => .inr ⟨rfl, h⟩
      · simp only [List.flatMap_cons, List.flatMap_nil, List.append_nil, List.mem_map] at hb
        obtain ⟨q, _, rfl⟩ := hb
        obtain ⟨p, hp, ha⟩ := List.mem_flatMap.1 ha
        obtain ⟨q', _, rfl⟩ := List.mem_map.1 ha
        exact .inl (by simpa using hp)
  exact key m
theorem tests_pair (t : Qt) : t.tests.Pairwise lexLt := testsL_pair _
theorem pair_nodup {l : List Tp} (h : l.Pairwise lexLt) : l.Nodup := h.imp fun h => lexLt_ne h
theorem nodup_len {s : List Tp} : ∀ {l : List Tp}, s.Nodup → (∀ x, x ∈ s → x ∈ l) → s.length ≤ l.length := by
  induction s with
  | nil => exact fun _ _ => Nat.zero_le _
  | cons x s ih =>
    intro l hn hs
    rw [List.nodup_cons] at hn
    have hx := hs x (by simp)
    have h1 := ih (l := l.erase x) hn.2 fun y hy => (List.mem_erase_of_ne fun e => hn.1 (by rw [← e]; exact hy)).2 (hs y (by simp [hy]))
    rw [List.length_erase_of_mem hx] at h1
    have h2 := List.length_pos_of_mem hx
    simp only [List.length_cons]
    omega
/-- tests of a town, in order -/
theorem sub_tests {t : Qt} {l : List Tp} (h : List.Sublist l t.tests) : (∀ x, x ∈ l → x ∈ t.tests) ∧ l.length ≤ t.wells.toNat * t.wells.toNat ∧ l.Pairwise lexLt :=
  ⟨fun x hx => h.subset hx, by have := h.length_le; unfold Qt.tests at this; rw [testsL_len] at this; exact this, (tests_pair t).sublist h⟩
/-! ### The fewest tests -/
theorem fewest_sub (t : Qt) (L : List Int) : List.Sublist (t.fewest L) t.tests := (fewest_spec t.tests (fun l => t.allApart l L) (allApart_tests t L)).1
theorem fewest_all (t : Qt) (L : List Int) : t.allApart (t.fewest L) L = true := (fewest_spec t.tests (fun l => t.allApart l L) (allApart_tests t L)).2.1
theorem allApart_sub {t : Qt} {l l' : List Tp} {L : List Int} (h : ∀ x, x ∈ l → x ∈ l') (ha : t.allApart l L = true) : t.allApart l' L = true :=
  allApart_iff.2 fun a h1 b h2 hs => someB_sub h (allApart_iff.1 ha a h1 b h2 hs)
theorem fewest_min {t : Qt} {L : List Int} {l : List Tp} (hl : ∀ x, x ∈ l → x ∈ t.tests) (ha : t.allApart l L = true) : (t.fewest L).length ≤ l.length := by
  have h1 := (fewest_spec t.tests (fun l => t.allApart l L) (allApart_tests t L)).2.2 (t.tests.filter fun x => decide (x ∈ l)) List.filter_sublist (allApart_sub (fun x hx => List.mem_filter.2 ⟨hl x hx, by simpa using hx⟩) ha)
  have h2 := nodup_len (s := t.tests.filter fun x => decide (x ∈ l)) (l := l) ((pair_nodup (tests_pair t)).sublist List.filter_sublist) fun x hx => by simpa using (List.mem_filter.1 hx).2
  exact Nat.le_trans h1 h2
theorem fewest_tight {t : Qt} {L : List Int} {i : Nat} (hi : i < (t.fewest L).length) : t.allApart ((t.fewest L).take i ++ (t.fewest L).drop (i + 1)) L = false := by
  cases h : t.allApart ((t.fewest L).take i ++ (t.fewest L).drop (i + 1)) L with
  | false => rfl
  | true =>
    have h1 := fewest_min (fun x hx => by
      rcases List.mem_append.1 hx with hx | hx
      · exact (fewest_sub t L).subset (List.mem_of_mem_take hx)
      · exact (fewest_sub t L).subset (List.mem_of_mem_drop hx)) h
    simp at h1
    omega
/-! ### The next test -/
theorem nextP_eq {t : Qt} {L : List Int} (hf : t.Falls L) (hl : L.length ≤ 100) : t.nextP L = t.next L := by
  unfold Qt.nextP Qt.next
  split
  · rename_i h0
    have hal : t.allApart [] L = false := by
      cases hal : t.allApart [] L with
      | false => rfl
      | true => rw [depth_step, hal] at h0; simp at h0
    have hne : L ≠ [] := by
      rintro rfl
      rw [allApart_short (by simp)] at hal
      cases hal
    have hlt := depth_below t hne
    refine find_congr fun x hx => ?_
    have hle : t.depth L ≤ 1 + t.behind x L := by
      rw [depth_step, hal, if_neg (by decide)]
      exact minF_le.2 (.inr ⟨x, hx, Int.le_refl _⟩)
    by_cases hs : ∃ a, a ∈ L ∧ ∃ b, b ∈ L ∧ t.F a x ≠ t.F b x
    · obtain ⟨a, ha, b, hb, hab⟩ := hs
      have h1 := (behind_split (fun L'' _ h2 => depth_below t h2) ha hb hab).1
      have h2 : t.afterP x L = t.behind x L := by
        rw [h1]
        unfold Qt.afterP
        rw [anyB_false.2 fun f _ => ?_]
        · rfl
        · cases he : t.shown x L f == L with
          | false => rfl
          | true =>
            have := eq_of_beq he
            exact absurd (shown_one (by rw [this]) ha hb) hab
      rw [h2]
      refine Bool.eq_iff_iff.2 ?_
      simp only [beq_iff_eq, decide_eq_true_eq]
      omega
    · have h' : ∀ a, a ∈ L → ∀ b, b ∈ L → t.F a x = t.F b x := fun a ha b hb => Classical.byContradiction fun hne => hs ⟨a, ha, b, hb, hne⟩
      obtain ⟨h1, f, hf1, hf2⟩ := behind_none hf hx hne h'
      have h2 : t.afterP x L = 1024 := by
        unfold Qt.afterP
        rw [if_pos (anyB_true.2 ⟨f, hf1, by rw [hf2]; simp⟩)]
      rw [h1, h2]
      refine Bool.eq_iff_iff.2 ?_
      simp only [beq_iff_eq, decide_eq_true_eq]
      omega
  · rfl
theorem depth_zero {t : Qt} {L : List Int} : t.depth L = 0 ↔ t.allApart [] L = true := by
  constructor
  · intro h
    cases hal : t.allApart [] L with
    | true => rfl
    | false =>
      have hne : L ≠ [] := by
        rintro rfl
        rw [allApart_short (by simp)] at hal
        cases hal
      have hst := depth_step t L
      rw [hal, if_neg (by decide)] at hst
      rcases minF_le.1 (Int.le_of_eq hst.symm) with h3 | ⟨x, hx, h3⟩
      · have := List.length_pos_iff.2 hne
        omega
      · have := behind_nonneg t x L
        omega
  · intro h
    rw [depth_step, h]
    rfl
theorem next_zero {t : Qt} {L : List Int} : (t.next L).isSome = decide (0 < t.depth L) := by
  cases h : t.next L with
  | none => rw [next_none h]; rfl
  | some x =>
    obtain ⟨_, h2, _⟩ := next_some h
    have := behind_nonneg t x L
    simp
    omega
/-- behind the next test: at the worst one less -/
theorem next_behind {t : Qt} {L : List Int} (hf : t.Falls L) {x : Tp} (h : t.next L = some x) : maxTo (fun f : Nat => t.depth (t.shown x L f)) 10 = t.depth L - 1 := by
  obtain ⟨h1, h2, h3⟩ := next_some h
  have hne : L ≠ [] := by
    rintro rfl
    rw [allApart_short (by simp)] at h3
    cases h3
  have hlt := depth_below t hne
  by_cases hs : ∃ a, a ∈ L ∧ ∃ b, b ∈ L ∧ t.F a x ≠ t.F b x
  · obtain ⟨a, ha, b, hb, hab⟩ := hs
    rw [← (behind_split (fun L'' _ h2 => depth_below t h2) ha hb hab).1]
    omega
  · have h' : ∀ a, a ∈ L → ∀ b, b ∈ L → t.F a x = t.F b x := fun a ha b hb => Classical.byContradiction fun hne => hs ⟨a, ha, b, hb, hne⟩
    have := (behind_none hf h1 hne h').1
    omega
/-! ### The tests that decide -/
theorem others_sub (t : Qt) (x : Tp) : List.Sublist (t.others x) t.tests := List.filter_sublist
theorem fewestL_sub (l : List Tp) (p : List Tp → Bool) : List.Sublist (fewestL l p) l := by
  unfold fewestL
  cases hf : firstUpTo l p 0 l.length with
  | some x => exact ((firstUpTo_spec l p l.length 0).1 x hf).1
  | none => exact List.Sublist.refl _
end Go.Proofs.YtchhodikgllgnaaDoor
/- Draws together, none, and twice: laws for the statements of quarrels. Plain Lean. No condition but what is said. -/
namespace Go.Proofs.YtchhodikgllgnaaDoor
open Go.RowKit Go.Sort
/-! ### Who is blamed -/
end Go.Proofs.YtchhodikgllgnaaDoor
/- Walks of the reference 05: Told, ShownAs. Conditions: what is read fits into memory. -/
namespace Go.Proofs.YtchhodikgllgnaaDoor
open Go.RowKit Go.Sort
theorem factL_snoc (t : Qt) (f : Fact) : factL (t.add f).fact (t.nf + 1) = factL t.fact t.nf ++ [.int .i64 f.from_, .int .i64 f.many, .int .i64 f.to_, .int .i64 f.low, .int .i64 f.high] := by
  unfold factL
  show catL _ t.nf ++ _ = _
  have e1 : (t.add f).fact t.nf = f := if_neg (Nat.lt_irrefl _)
  congr 1
  · exact catL_congr t.nf fun i hi => by rw [show (t.add f).fact i = t.fact i from if_pos hi]
  · simp only [e1]
theorem owns_kept {l : List TypeId} {w w' : World} {base : Nat} {e : TypeId} {size n : Nat} {v : Value} {xs : List Value} (h : w.ownsRow base e size v n xs) (hk : Kept l w w') (he : e ∈ l) : w'.ownsRow base e size v n xs :=
  ⟨h.1, h.2.imp id fun ⟨g, cap, cur, h1, h2, h3, h4⟩ => ⟨g, cap, cur, h1, h2, (hk.2 g _ _ _ h3 he).trans h3, h4⟩⟩
set_option maxHeartbeats 4000000 in
set_option maxRecDepth 100000 in
theorem told5_any (Aw Af : Option Addr) (cw cf : Nat) (t : Qt) (f : Fact) (w : World) (hf : t.Fits) (hT : QAt w Aw Af t) :
    Calls Tryd.prog 36 #[.agg #[.int .i64 t.wells, .slice Aw t.nw cw, .slice Af t.nf cf], .agg #[.int .i64 f.from_, .int .i64 f.many, .int .i64 f.to_, .int .i64 f.low, .int .i64 f.high]] w fun e w' => CopyOut w' w.heap.size (t.add f) e ∧ Below w.heap.size w w' := by
  have hb2 := bAlloc (bAlloc (bAlloc (Below.refl w.heap.size w) (.cells #[.int .i64 t.wells, .slice Aw t.nw cw, .slice Af t.nf cf] 25)) (.cells #[.int .i64 f.from_, .int .i64 f.many, .int .i64 f.to_, .int .i64 f.low, .int .i64 f.high] 53)) (.cells #[.int .i64 0, .slice none 0 0, .slice none 0 0] 25)
  have HT := Lib.hid (hT.mono hb2)
  have HB := Lib.hid hb2
  have HF := Lib.hid hf
  have HTR := Lib.hid (TBox.new ((w.alloc (.cells #[.int .i64 t.wells, .slice Aw t.nw cw, .slice Af t.nf cf] 25)).alloc (.cells #[.int .i64 f.from_, .int .i64 f.many, .int .i64 f.to_, .int .i64 f.low, .int .i64 f.high] 53)) #[.int .i64 0, .slice none 0 0, .slice none 0 0] 25)
  clear hT hb2 hf
  obtain ⟨i0, hi, iz0, iz1, iz2⟩ := info_parts infoFact
  go_enter Tryd.func36, Tryd.ntmps36
  go_wp2_with fail
  refine (copy5_any _ _ _ _ t _ HF.out HT.out).mono ?_
  rintro e w1 ⟨⟨vW, vF, rfl, hc⟩, hb1⟩
  obtain ⟨A1, c1, A2, c2, rfl, rfl, _⟩ := hc.qat
  have HC := Lib.hid hc
  have HB1 := Lib.hid hb1
  obtain ⟨bc1, bf1⟩ := bcell hb1
  have hz1 := hb1.size
  simp only [World.size_alloc] at hz1
  have hy1 : w.heap.size < w1.heap.size := by omega
  have hy2 : w.heap.size + 1 < w1.heap.size := by omega
  have hy3 : w.heap.size + 1 + 1 < w1.heap.size := by omega
  have HX1 := Lib.hid (TBox.new w1 #[.int .i64 t.wells, .slice A1 t.nw c1, .slice A2 t.nf c2] 25)
  have HN := Lib.hid (show (t.nf + 1) * 40 ≤ 140737488355328 by have := HF.out.2.1; omega)
  have hbase := HB1.out.size
  simp only [World.size_alloc] at hbase
  clear hc hb1
  have HO2 := Lib.hid (show ((w1.alloc (.cells #[.int .i64 t.wells, .slice A1 t.nw c1, .slice A2 t.nf c2] 25)).alloc (.cells #[.int .i64 f.from_, .int .i64 f.many, .int .i64 f.to_, .int .i64 f.low, .int .i64 f.high] 53)).ownsRow (w.heap.size + 1 + 1 + 1) 53 5 (.slice A2 t.nf c2) t.nf (factL t.fact t.nf) by
    have := (HC.out.facts.alloc (.cells #[.int .i64 t.wells, .slice A1 t.nw c1, .slice A2 t.nf c2] 25)).alloc (.cells #[.int .i64 f.from_, .int .i64 f.many, .int .i64 f.to_, .int .i64 f.low, .int .i64 f.high] 53)
    simpa using this)
  have HB2 := Lib.hid (show Below (w.heap.size + 1 + 1 + 1) (((w.alloc (.cells #[.int .i64 t.wells, .slice Aw t.nw cw, .slice Af t.nf cf] 25)).alloc (.cells #[.int .i64 f.from_, .int .i64 f.many, .int .i64 f.to_, .int .i64 f.low, .int .i64 f.high] 53)).alloc (.cells #[.int .i64 0, .slice none 0 0, .slice none 0 0] 25)) ((w1.alloc (.cells #[.int .i64 t.wells, .slice A1 t.nw c1, .slice A2 t.nf c2] 25)).alloc (.cells #[.int .i64 f.from_, .int .i64 f.many, .int .i64 f.to_, .int .i64 f.low, .int .i64 f.high] 53)) by
    have := bAlloc (bAlloc HB1.out (.cells #[.int .i64 t.wells, .slice A1 t.nw c1, .slice A2 t.nf c2] 25)) (.cells #[.int .i64 f.from_, .int .i64 f.many, .int .i64 f.to_, .int .i64 f.low, .int .i64 f.high] 53)
    simpa using this)
  go_wp2_with (at_builtin; refine wpList_append_own _ rfl (Operand.tmp 9) (Operand.tmp 11) 23 rfl (w.heap.size + 1 + 1 + 1) 53 i0 (.agg #[.int .i64 0, .int .i64 0, .int .i64 0, .int .i64 0, .int .i64 0]) 5 40 Tryd.underlying23 hi iz0 iz1 iz2 rfl (by decide) _ t.nf (factL t.fact t.nf) rfl HO2.out ⟨w1.heap.size + 1, 0, none⟩ 1 1 [.int .i64 f.from_, .int .i64 f.many, .int .i64 f.to_, .int .i64 f.low, .int .i64 f.high] rfl rfl ?c1 ?c2 ?c3 HN.out ?c4 ?_)
  case c1 =>
    intro j u hj
    have hc := cell_of_row _ (w1.heap.size + 1) j _ _ _ (show ((w1.alloc (.cells #[.int .i64 t.wells, .slice A1 t.nw c1, .slice A2 t.nf c2] 25)).alloc (.cells #[.int .i64 f.from_, .int .i64 f.many, .int .i64 f.to_, .int .i64 f.low, .int .i64 f.high] 53)).heap[w1.heap.size + 1]? = some (Obj.cells #[.int .i64 f.from_, .int .i64 f.many, .int .i64 f.to_, .int .i64 f.low, .int .i64 f.high] 53 (0, 0)) by have := heap_alloc_new (w1.alloc (.cells #[.int .i64 t.wells, .slice A1 t.nw c1, .slice A2 t.nf c2] 25)) (.cells #[.int .i64 f.from_, .int .i64 f.many, .int .i64 f.to_, .int .i64 f.low, .int .i64 f.high] 53); simpa using this)
    rw [show (⟨w1.heap.size + 1, 0, none⟩ : Addr).add j = ⟨w1.heap.size + 1, j, none⟩ from by unfold Addr.add; split <;> simp_all, hc]
    simpa using hj
  case c2 =>
    intro u hu
    simp only [List.mem_cons, List.not_mem_nil, or_false] at hu
    rcases hu with rfl | rfl | rfl | rfl | rfl <;> rfl
  case c3 => unfold maxLen; have := HN.out; omega
  case c4 => simp <;> omega
  intro v' w4 hown4 hg4 _
  obtain ⟨A4, c4, rfl, _⟩ := RowK.own hown4
  have hnb : some w1.heap.size ≠ (Value.slice A2 t.nf c2).ownBlock := fun e => by have := HC.out.facts.lt _ e.symm; omega
  have HX4 := Lib.hid ((HX1.out.mono (bAlloc (Below.refl _ _) (.cells #[.int .i64 f.from_, .int .i64 f.many, .int .i64 f.to_, .int .i64 f.low, .int .i64 f.high] 53))).grown hg4 hnb)
  have hB4 : Below (w.heap.size + 1 + 1 + 1) (((w.alloc (.cells #[.int .i64 t.wells, .slice Aw t.nw cw, .slice Af t.nf cf] 25)).alloc (.cells #[.int .i64 f.from_, .int .i64 f.many, .int .i64 f.to_, .int .i64 f.low, .int .i64 f.high] 53)).alloc (.cells #[.int .i64 0, .slice none 0 0, .slice none 0 0] 25)) w4 := HB2.out.grown hg4 (by simp <;> omega) (fun k hk => (HO2.out.lt k hk).1)
  have HB4 := Lib.hid hB4
  have hTR : TBox w4 (w.heap.size + 1 + 1) 25 #[.int .i64 0, .slice none 0 0, .slice none 0 0] := (hB4.block (w.heap.size + 1 + 1) (by omega)).trans (by have := HTR.out; simpa [TBox] using this)
  have HTR4 := Lib.hid hTR
  have hk4 : Kept [3, 40, 81] ((w1.alloc (.cells #[.int .i64 t.wells, .slice A1 t.nw c1, .slice A2 t.nf c2] 25)).alloc (.cells #[.int .i64 f.from_, .int .i64 f.many, .int .i64 f.to_, .int .i64 f.low, .int .i64 f.high] 53)) w4 := Kept.of_own hg4 HO2.out (by decide)
  have HK4 := Lib.hid hk4
  have HG4 := Lib.hid hg4
  have HO4 := Lib.hid hown4
  have hlt4 : w1.heap.size < w4.heap.size := HX4.out.lt
  have r0 : w4.cell? ⟨w1.heap.size, 0, none⟩ = some (.int .i64 t.wells) := HX4.out.cell 0
  have r1 : w4.cell? ⟨w1.heap.size, 1, none⟩ = some (.slice A1 t.nw c1) := HX4.out.cell 1
  have r2 : w4.cell? ⟨w1.heap.size, 2, none⟩ = some (.slice A2 t.nf c2) := HX4.out.cell 2
  have r3 := HX4.out.frozen 2
  have s0 : w4.cell? ⟨w.heap.size + 1 + 1, 0, none⟩ = some (.int .i64 0) := hTR.cell 0
  have s1 : w4.cell? ⟨w.heap.size + 1 + 1, 1, none⟩ = some (.slice none 0 0) := hTR.cell 1
  have s2 : w4.cell? ⟨w.heap.size + 1 + 1, 2, none⟩ = some (.slice none 0 0) := hTR.cell 2
  have t0 := hTR.frozen 0
  have t1 := hTR.frozen 1
  have t2 := hTR.frozen 2
  have hy4 : w.heap.size + 1 + 1 < w4.heap.size := hTR.lt
  clear hTR hown4 hg4 hnb hB4 hk4 bc1 bf1
  go_wp2_with fail
  have hne : w1.heap.size ≠ w.heap.size + 1 + 1 := by omega
  have R5 := HTR4.out.other hne 2 (.slice A4 (t.nf + 1) c4)
  have R6 := R5.set 0 (.int .i64 t.wells)
  have R7 := R6.set 1 (.slice A1 t.nw c1)
  have hkS := (((Kept.set (l := [3, 40, 81]) HX4.out (by decide) 2 (.slice A4 (t.nf + 1) c4)).trans (Kept.set R5 (by decide) 0 (.int .i64 t.wells))).trans (Kept.set R6 (by decide) 1 (.slice A1 t.nw c1))).trans (Kept.set R7 (by decide) 2 (.slice A4 (t.nf + 1) c4))
  obtain ⟨us, hu1, hu2⟩ := HC.out.worlds
  have hk0 : Kept [3, 40, 81] w1 _ := ((Kept.of_below (bAlloc (bAlloc (Below.refl w1.heap.size w1) (.cells #[.int .i64 t.wells, .slice A1 t.nw c1, .slice A2 t.nf c2] 25)) (.cells #[.int .i64 f.from_, .int .i64 f.many, .int .i64 f.to_, .int .i64 f.low, .int .i64 f.high] 53))).trans HK4.out).trans hkS
  refine bodyPost_ret (v := .agg #[.int .i64 t.wells, .slice A1 t.nw c1, .slice A4 (t.nf + 1) c4]) (by simp [results, Tryd.results36, go_sem, *]) rfl ⟨⟨_, _, rfl, ⟨us, ?_, hu2.kept hk0 (by simp) (by simp)⟩, ?_⟩, ?_⟩
  · exact owns_lower (owns_kept hu1 hk0 (by simp)) (by simp <;> omega)
  · show World.ownsRow _ w.heap.size 53 5 (.slice A4 (t.nf + 1) c4) (t.nf + 1) (factL (t.add f).fact (t.nf + 1))
    rw [factL_snoc]
    exact owns_lower (owns_setT (owns_setT (owns_setT (owns_setT HO4.out HX4.out (by decide) 2 _) R5 (by decide) 0 _) R6 (by decide) 1 _) R7 (by decide) 2 _) (by omega)
  · have h0 : Below w.heap.size w w4 := bTrans HB.out (by have := HB4.out; simpa using this)
    exact Below.setCell (p := ⟨w.heap.size + 1 + 1, 2, none⟩) (Below.setCell (p := ⟨w.heap.size + 1 + 1, 1, none⟩) (Below.setCell (p := ⟨w.heap.size + 1 + 1, 0, none⟩) (Below.setCell (p := ⟨w1.heap.size, 2, none⟩) h0 (by show w.heap.size ≤ w1.heap.size; omega) _) (by show w.heap.size ≤ w.heap.size + 1 + 1; omega) _) (by show w.heap.size ≤ w.heap.size + 1 + 1; omega) _) (by show w.heap.size ≤ w.heap.size + 1 + 1; omega) _
theorem shownAs5_any (p q : Nat) (f : Int) (w : World) :
    Calls Tryd.prog 48 #[.agg #[.int .i64 p, .int .i64 q], .int .i64 f] w fun e w' => e = .returned (.agg #[.int .i64 p, .int .i64 1, .int .i64 q, .int .i64 f, .int .i64 f]) ∧ Below w.heap.size w w' := by
  go_enter Tryd.func48, Tryd.ntmps48
  go_wp2_with fail
  refine bodyPost_ret (v := .agg #[.int .i64 p, .int .i64 1, .int .i64 q, .int .i64 f, .int .i64 f]) (by simp [results, Tryd.results48, go_sem, *]) rfl ⟨rfl, ?_⟩
  exact bAlloc (bAlloc (Below.refl _ _) _) _
end Go.Proofs.YtchhodikgllgnaaDoor
/- The chapter's example towns: plain facts, and the walk of Example of the law 05. No condition. -/
namespace Go.Proofs.YtchhodikgllgnaaDoor
open Go.RowKit Go.Sort
def exWd (i : Nat) : Wd := ⟨2, fun _ => 2, fun k j => if k = 0 then (if j = 0 then 3 else if i = 1 then 2 else 1) else (if j = 0 then (if i = 0 then 0 else if i = 1 then 1 else 2) else 2)⟩
def exG : Qt := ⟨2, 3, exWd, 0, fun _ => ⟨0, 0, 0, 0, 0⟩⟩
def exF : Fact := ⟨0, 2, 1, 2, 3⟩
def exE : Qt := exG.add exF
def exD (k : Nat) : Int := if k = 0 then 2 else 3
theorem exWd_ok (i : Nat) : (exWd i).Ok 2 :=
  ⟨rfl, fun _ _ => rfl, fun k _ j _ => by
    unfold exWd
    simp only
    repeat' split
    all_goals omega⟩
theorem exG_ok : exG.Ok := ⟨by decide, by decide, by decide, by decide, fun i _ => exWd_ok i, fun i hi => absurd hi (Nat.not_lt_zero _)⟩
theorem exE_ok : exE.Ok := ⟨by decide, by decide, by decide, by decide, fun i _ => exWd_ok i, fun i hi => by
  obtain rfl : i = 0 := by have : i < 1 := hi; omega
  exact ⟨by decide, by decide, by decide, by decide, by decide, by decide, by decide, by decide, by decide⟩⟩
theorem exE_left : exE.leftL = [0, 2] := by decide +kernel
theorem exG_left : exG.leftL = [0, 1, 2] := by decide +kernel
theorem exE_know : exE.knowErr true = 0 := knowErr_ok exE_ok (by rw [exE_left]; decide)
theorem exG_know : exG.knowErr true = 0 := knowErr_ok exG_ok (by rw [exG_left]; decide)
theorem exG_fits : exG.Fits := ⟨by decide, by decide, fun i _ => ⟨by show 2 * 24 ≤ _; decide, fun k _ => by show 2 * 8 ≤ _; decide⟩⟩
theorem exE_fits : exE.Fits := ⟨by decide, by decide, fun i _ => ⟨by show 2 * 24 ≤ _; decide, fun k _ => by show 2 * 8 ≤ _; decide⟩⟩
theorem ex_total : spanOf (exE.lowers exD 2 0) exE.leftL = (6, 12) := by rw [exE_left]; decide +kernel
theorem ex_harms : harmK (exE.between 0 1) 0 = 1 := by decide +kernel
theorem ex_split : exG.splitL (0, 1) exG.leftL = 2 := by decide +kernel
theorem ex_depth : exG.depth exG.leftL = 1 := by decide +kernel
theorem ex_fewest : exG.fewest exG.leftL = [(1, 0)] := by decide +kernel
theorem ex_draws : exE.drawsB 2 exD = true := by decide +kernel
theorem ex_well (n : Int) (h : 0 ≤ n) (h1 : n < 2) : exE.wellB n = true := by rw [wellB_ok exE_ok]; exact inR_t ⟨h, by show n ≤ 2 - 1; omega⟩
theorem ex_wellG (n : Int) (h : 0 ≤ n) (h1 : n < 2) : exG.wellB n = true := by rw [wellB_ok exG_ok]; exact inR_t ⟨h, by show n ≤ 2 - 1; omega⟩
theorem ints2 {w : World} {b : Nat} {g : Nat → Int} (hl : b < w.heap.size) (h0 : w.cell? ⟨b, 0, none⟩ = some (.int .i64 (g 0))) (h1 : w.cell? ⟨b, 1, none⟩ = some (.int .i64 (g 1))) : IntsAt w (some ⟨b, 0, none⟩) 2 g :=
  .inr ⟨b, 0, rfl, hl, fun i hi => match i, hi with
    | 0, _ => h0
    | 1, _ => h1
    | n + 2, hi => absurd hi (by omega)⟩
theorem rows2 {w : World} {b b0 b1 : Nat} (i : Nat) (hl : b < w.heap.size) (h0 : w.cell? ⟨b, 0, none⟩ = some (.slice (some ⟨b0, 0, none⟩) 2 2)) (h1 : w.cell? ⟨b, 1, none⟩ = some (.slice (some ⟨b1, 0, none⟩) 2 2)) (i0 : IntsAt w (some ⟨b0, 0, none⟩) 2 ((exWd i).fall 0)) (i1 : IntsAt w (some ⟨b1, 0, none⟩) 2 ((exWd i).fall 1)) : RowsAt w (some ⟨b, 0, none⟩) (exWd i) :=
  .inr ⟨b, 0, rfl, hl, fun k hk => match k, hk with
    | 0, _ => ⟨_, 2, h0, i0, by show (2 : Nat) ≤ _; decide⟩
    | 1, _ => ⟨_, 2, h1, i1, by show (2 : Nat) ≤ _; decide⟩
    | n + 2, hk => absurd hk (by show ¬ n + 2 < 2; omega)⟩
theorem worlds3 {w : World} {b b0 b1 b2 : Nat} (hl : b < w.heap.size) (h0 : w.cell? ⟨b, 0, none⟩ = some (.slice (some ⟨b0, 0, none⟩) 2 2)) (h1 : w.cell? ⟨b, 1, none⟩ = some (.slice (some ⟨b1, 0, none⟩) 2 2)) (h2 : w.cell? ⟨b, 2, none⟩ = some (.slice (some ⟨b2, 0, none⟩) 2 2)) (r0 : RowsAt w (some ⟨b0, 0, none⟩) (exWd 0)) (r1 : RowsAt w (some ⟨b1, 0, none⟩) (exWd 1)) (r2 : RowsAt w (some ⟨b2, 0, none⟩) (exWd 2)) : QAt w (some ⟨b, 0, none⟩) none exG :=
  ⟨.inr ⟨b, 0, rfl, hl, fun i hi => match i, hi with
    | 0, _ => ⟨_, 2, h0, r0, by show (2 : Nat) ≤ _; decide⟩
    | 1, _ => ⟨_, 2, h1, r1, by show (2 : Nat) ≤ _; decide⟩
    | 2, _ => ⟨_, 2, h2, r2, by show (2 : Nat) ≤ _; decide⟩
    | n + 3, hi => absurd hi (by show ¬ n + 3 < 3; omega)⟩, .inl rfl⟩
set_option maxHeartbeats 4000000 in
theorem exG_at (w : World) : ∀ w' : World, (∀ b, w.heap.size + 2 ≤ b → b < ((((((((((((w.alloc (.cells #[.int .i64 0, .slice none 0 0, .slice none 0 0] 25)).alloc (.cells #[.int .i64 2, .slice (some ⟨w.heap.size + 1 + 1 + 1 + 1 + 1 + 1 + 1 + 1 + 1 + 1 + 1, 0, none⟩) 3 3, .slice none 0 0] 25)).alloc (.cells #[.int .i64 3, .int .i64 1] 3)).alloc (.cells #[.int .i64 0, .int .i64 2] 3)).alloc (.cells #[.slice (some ⟨w.heap.size + 1 + 1, 0, none⟩) 2 2, .slice (some ⟨w.heap.size + 1 + 1 + 1, 0, none⟩) 2 2] 40)).alloc (.cells #[.int .i64 3, .int .i64 2] 3)).alloc (.cells #[.int .i64 1, .int .i64 2] 3)).alloc (.cells #[.slice (some ⟨w.heap.size + 1 + 1 + 1 + 1 + 1, 0, none⟩) 2 2, .slice (some ⟨w.heap.size + 1 + 1 + 1 + 1 + 1 + 1, 0, none⟩) 2 2] 40)).alloc (.cells #[.int .i64 3, .int .i64 1] 3)).alloc (.cells #[.int .i64 2, .int .i64 2] 3)).alloc (.cells #[.slice (some ⟨w.heap.size + 1 + 1 + 1 + 1 + 1 + 1 + 1 + 1, 0, none⟩) 2 2, .slice (some ⟨w.heap.size + 1 + 1 + 1 + 1 + 1 + 1 + 1 + 1 + 1, 0, none⟩) 2 2] 40)).alloc (.cells #[.slice (some ⟨w.heap.size + 1 + 1 + 1 + 1, 0, none⟩) 2 2, .slice (some ⟨w.heap.size + 1 + 1 + 1 + 1 + 1 + 1 + 1, 0, none⟩) 2 2, .slice (some ⟨w.heap.size + 1 + 1 + 1 + 1 + 1 + 1 + 1 + 1 + 1 + 1, 0, none⟩) 2 2] 81)).heap.size → w'.heap[b]? = ((((((((((((w.alloc (.cells #[.int .i64 0, .slice none 0 0, .slice none 0 0] 25)).alloc (.cells #[.int .i64 2, .slice (some ⟨w.heap.size + 1 + 1 + 1 + 1 + 1 + 1 + 1 + 1 + 1 + 1 + 1, 0, none⟩) 3 3, .slice none 0 0] 25)).alloc (.cells #[.int .i64 3, .int .i64 1] 3)).alloc (.cells #[.int .i64 0, .int .i64 2] 3)).alloc (.cells #[.slice (some ⟨w.heap.size + 1 + 1, 0, none⟩) 2 2, .slice (some ⟨w.heap.size + 1 + 1 + 1, 0, none⟩) 2 2] 40)).alloc (.cells #[.int .i64 3, .int .i64 2] 3)).alloc (.cells #[.int .i64 1, .int .i64 2] 3)).alloc (.cells #[.slice (some ⟨w.heap.size + 1 + 1 + 1 + 1 + 1, 0, none⟩) 2 2, .slice (some ⟨w.heap.size + 1 + 1 + 1 + 1 + 1 + 1, 0, none⟩) 2 2] 40)).alloc (.cells #[.int .i64 3, .int .i64 1] 3)).alloc (.cells #[.int .i64 2, .int .i64 2] 3)).alloc (.cells #[.slice (some ⟨w.heap.size + 1 + 1 + 1 + 1 + 1 + 1 + 1 + 1, 0, none⟩) 2 2, .slice (some ⟨w.heap.size + 1 + 1 + 1 + 1 + 1 + 1 + 1 + 1 + 1, 0, none⟩) 2 2] 40)).alloc (.cells #[.slice (some ⟨w.heap.size + 1 + 1 + 1 + 1, 0, none⟩) 2 2, .slice (some ⟨w.heap.size + 1 + 1 + 1 + 1 + 1 + 1 + 1, 0, none⟩) 2 2, .slice (some ⟨w.heap.size + 1 + 1 + 1 + 1 + 1 + 1 + 1 + 1 + 1 + 1, 0, none⟩) 2 2] 81)).heap[b]?) → ((((((((((((w.alloc (.cells #[.int .i64 0, .slice none 0 0, .slice none 0 0] 25)).alloc (.cells #[.int .i64 2, .slice (some ⟨w.heap.size + 1 + 1 + 1 + 1 + 1 + 1 + 1 + 1 + 1 + 1 + 1, 0, none⟩) 3 3, .slice none 0 0] 25)).alloc (.cells #[.int .i64 3, .int .i64 1] 3)).alloc (.cells #[.int .i64 0, .int .i64 2] 3)).alloc (.cells #[.slice (some ⟨w.heap.size + 1 + 1, 0, none⟩) 2 2, .slice (some ⟨w.heap.size + 1 + 1 + 1, 0, none⟩) 2 2] 40)).alloc (.cells #[.int .i64 3, .int .i64 2] 3)).alloc (.cells #[.int .i64 1, .int .i64 2] 3)).alloc (.cells #[.slice (some ⟨w.heap.size + 1 + 1 + 1 + 1 + 1, 0, none⟩) 2 2, .slice (some ⟨w.heap.size + 1 + 1 + 1 + 1 + 1 + 1, 0, none⟩) 2 2] 40)).alloc (.cells #[.int .i64 3, .int .i64 1] 3)).alloc (.cells #[.int .i64 2, .int .i64 2] 3)).alloc (.cells #[.slice (some ⟨w.heap.size + 1 + 1 + 1 + 1 + 1 + 1 + 1 + 1, 0, none⟩) 2 2, .slice (some ⟨w.heap.size + 1 + 1 + 1 + 1 + 1 + 1 + 1 + 1 + 1, 0, none⟩) 2 2] 40)).alloc (.cells #[.slice (some ⟨w.heap.size + 1 + 1 + 1 + 1, 0, none⟩) 2 2, .slice (some ⟨w.heap.size + 1 + 1 + 1 + 1 + 1 + 1 + 1, 0, none⟩) 2 2, .slice (some ⟨w.heap.size + 1 + 1 + 1 + 1 + 1 + 1 + 1 + 1 + 1 + 1, 0, none⟩) 2 2] 81)).heap.size ≤ w'.heap.size → QAt w' (some ⟨w.heap.size + 1 + 1 + 1 + 1 + 1 + 1 + 1 + 1 + 1 + 1 + 1, 0, none⟩) none exG := by
  intro w' hk hs
  simp only [World.size_alloc] at hs
  have c2_0 : w'.cell? ⟨w.heap.size + 1 + 1, 0, none⟩ = some (.int .i64 3) := (cell_of_heap (hk (w.heap.size + 1 + 1) (by omega) (by simp <;> omega)) 0).trans (by simp [go_sem])
  have c2_1 : w'.cell? ⟨w.heap.size + 1 + 1, 1, none⟩ = some (.int .i64 1) := (cell_of_heap (hk (w.heap.size + 1 + 1) (by omega) (by simp <;> omega)) 1).trans (by simp [go_sem])
  have c3_0 : w'.cell? ⟨w.heap.size + 1 + 1 + 1, 0, none⟩ = some (.int .i64 0) := (cell_of_heap (hk (w.heap.size + 1 + 1 + 1) (by omega) (by simp <;> omega)) 0).trans (by simp [go_sem])
  have c3_1 : w'.cell? ⟨w.heap.size + 1 + 1 + 1, 1, none⟩ = some (.int .i64 2) := (cell_of_heap (hk (w.heap.size + 1 + 1 + 1) (by omega) (by simp <;> omega)) 1).trans (by simp [go_sem])
  have c4_0 : w'.cell? ⟨w.heap.size + 1 + 1 + 1 + 1, 0, none⟩ = some (.slice (some ⟨w.heap.size + 1 + 1, 0, none⟩) 2 2) := (cell_of_heap (hk (w.heap.size + 1 + 1 + 1 + 1) (by omega) (by simp <;> omega)) 0).trans (by simp [go_sem])
  have c4_1 : w'.cell? ⟨w.heap.size + 1 + 1 + 1 + 1, 1, none⟩ = some (.slice (some ⟨w.heap.size + 1 + 1 + 1, 0, none⟩) 2 2) := (cell_of_heap (hk (w.heap.size + 1 + 1 + 1 + 1) (by omega) (by simp <;> omega)) 1).trans (by simp [go_sem])
  have c5_0 : w'.cell? ⟨w.heap.size + 1 + 1 + 1 + 1 + 1, 0, none⟩ = some (.int .i64 3) := (cell_of_heap (hk (w.heap.size + 1 + 1 + 1 + 1 + 1) (by omega) (by simp <;> omega)) 0).trans (by simp [go_sem])
  have c5_1 : w'.cell? ⟨w.heap.size + 1 + 1 + 1 + 1 + 1, 1, none⟩ = some (.int .i64 2) := (cell_of_heap (hk (w.heap.size + 1 + 1 + 1 + 1 + 1) (by omega) (by simp <;> omega)) 1).trans (by simp [go_sem])
  have c6_0 : w'.cell? ⟨w.heap.size + 1 + 1 + 1 + 1 + 1 + 1, 0, none⟩ = some (.int .i64 1) := (cell_of_heap (hk (w.heap.size + 1 + 1 + 1 + 1 + 1 + 1) (by omega) (by simp <;> omega)) 0).trans (by simp [go_sem])
  have c6_1 : w'.cell? ⟨w.heap.size + 1 + 1 + 1 + 1 + 1 + 1, 1, none⟩ = some (.int .i64 2) := (cell_of_heap (hk (w.heap.size + 1 + 1 + 1 + 1 + 1 + 1) (by omega) (by simp <;> omega)) 1).trans (by simp [go_sem])
  have c7_0 : w'.cell? ⟨w.heap.size + 1 + 1 + 1 + 1 + 1 + 1 + 1, 0, none⟩ = some (.slice (some ⟨w.heap.size + 1 + 1 + 1 + 1 + 1, 0, none⟩) 2 2) := (cell_of_heap (hk (w.heap.size + 1 + 1 + 1 + 1 + 1 + 1 + 1) (by omega) (by simp <;> omega)) 0).trans (by simp [go_sem])
  have c7_1 : w'.cell? ⟨w.heap.size + 1 + 1 + 1 + 1 + 1 + 1 + 1, 1, none⟩ = some (.slice (some ⟨w.heap.size + 1 + 1 + 1 + 1 + 1 + 1, 0, none⟩) 2 2) := (cell_of_heap (hk (w.heap.size + 1 + 1 + 1 + 1 + 1 + 1 + 1) (by omega) (by simp <;> omega)) 1).trans (by simp [go_sem])
  have c8_0 : w'.cell? ⟨w.heap.size + 1 + 1 + 1 + 1 + 1 + 1 + 1 + 1, 0, none⟩ = some (.int .i64 3) := (cell_of_heap (hk (w.heap.size + 1 + 1 + 1 + 1 + 1 + 1 + 1 + 1) (by omega) (by simp <;> omega)) 0).trans (by simp [go_sem])
  have c8_1 : w'.cell? ⟨w.heap.size + 1 + 1 + 1 + 1 + 1 + 1 + 1 + 1, 1, none⟩ = some (.int .i64 1) := (cell_of_heap (hk (w.heap.size + 1 + 1 + 1 + 1 + 1 + 1 + 1 + 1) (by omega) (by simp <;> omega)) 1).trans (by simp [go_sem])
  have c9_0 : w'.cell? ⟨w.heap.size + 1 + 1 + 1 + 1 + 1 + 1 + 1 + 1 + 1, 0, none⟩ = some (.int .i64 2) := (cell_of_heap (hk (w.heap.size + 1 + 1 + 1 + 1 + 1 + 1 + 1 + 1 + 1) (by omega) (by simp <;> omega)) 0).trans (by simp [go_sem])
  have c9_1 : w'.cell? ⟨w.heap.size + 1 + 1 + 1 + 1 + 1 + 1 + 1 + 1 + 1, 1, none⟩ = some (.int .i64 2) := (cell_of_heap (hk (w.heap.size + 1 + 1 + 1 + 1 + 1 + 1 + 1 + 1 + 1) (by omega) (by simp <;> omega)) 1).trans (by simp [go_sem])
  have c10_0 : w'.cell? ⟨w.heap.size + 1 + 1 + 1 + 1 + 1 + 1 + 1 + 1 + 1 + 1, 0, none⟩ = some (.slice (some ⟨w.heap.size + 1 + 1 + 1 + 1 + 1 + 1 + 1 + 1, 0, none⟩) 2 2) := (cell_of_heap (hk (w.heap.size + 1 + 1 + 1 + 1 + 1 + 1 + 1 + 1 + 1 + 1) (by omega) (by simp <;> omega)) 0).trans (by simp [go_sem])
  have c10_1 : w'.cell? ⟨w.heap.size + 1 + 1 + 1 + 1 + 1 + 1 + 1 + 1 + 1 + 1, 1, none⟩ = some (.slice (some ⟨w.heap.size + 1 + 1 + 1 + 1 + 1 + 1 + 1 + 1 + 1, 0, none⟩) 2 2) := (cell_of_heap (hk (w.heap.size + 1 + 1 + 1 + 1 + 1 + 1 + 1 + 1 + 1 + 1) (by omega) (by simp <;> omega)) 1).trans (by simp [go_sem])
  have c11_0 : w'.cell? ⟨w.heap.size + 1 + 1 + 1 + 1 + 1 + 1 + 1 + 1 + 1 + 1 + 1, 0, none⟩ = some (.slice (some ⟨w.heap.size + 1 + 1 + 1 + 1, 0, none⟩) 2 2) := (cell_of_heap (hk (w.heap.size + 1 + 1 + 1 + 1 + 1 + 1 + 1 + 1 + 1 + 1 + 1) (by omega) (by simp <;> omega)) 0).trans (by simp [go_sem])
  have c11_1 : w'.cell? ⟨w.heap.size + 1 + 1 + 1 + 1 + 1 + 1 + 1 + 1 + 1 + 1 + 1, 1, none⟩ = some (.slice (some ⟨w.heap.size + 1 + 1 + 1 + 1 + 1 + 1 + 1, 0, none⟩) 2 2) := (cell_of_heap (hk (w.heap.size + 1 + 1 + 1 + 1 + 1 + 1 + 1 + 1 + 1 + 1 + 1) (by omega) (by simp <;> omega)) 1).trans (by simp [go_sem])
  have c11_2 : w'.cell? ⟨w.heap.size + 1 + 1 + 1 + 1 + 1 + 1 + 1 + 1 + 1 + 1 + 1, 2, none⟩ = some (.slice (some ⟨w.heap.size + 1 + 1 + 1 + 1 + 1 + 1 + 1 + 1 + 1 + 1, 0, none⟩) 2 2) := (cell_of_heap (hk (w.heap.size + 1 + 1 + 1 + 1 + 1 + 1 + 1 + 1 + 1 + 1 + 1) (by omega) (by simp <;> omega)) 2).trans (by simp [go_sem])
  have l2 : w.heap.size + 1 + 1 < w'.heap.size := by omega
  have l3 : w.heap.size + 1 + 1 + 1 < w'.heap.size := by omega
  have l4 : w.heap.size + 1 + 1 + 1 + 1 < w'.heap.size := by omega
  have l5 : w.heap.size + 1 + 1 + 1 + 1 + 1 < w'.heap.size := by omega
  have l6 : w.heap.size + 1 + 1 + 1 + 1 + 1 + 1 < w'.heap.size := by omega
  have l7 : w.heap.size + 1 + 1 + 1 + 1 + 1 + 1 + 1 < w'.heap.size := by omega
  have l8 : w.heap.size + 1 + 1 + 1 + 1 + 1 + 1 + 1 + 1 < w'.heap.size := by omega
  have l9 : w.heap.size + 1 + 1 + 1 + 1 + 1 + 1 + 1 + 1 + 1 < w'.heap.size := by omega
  have l10 : w.heap.size + 1 + 1 + 1 + 1 + 1 + 1 + 1 + 1 + 1 + 1 < w'.heap.size := by omega
  have l11 : w.heap.size + 1 + 1 + 1 + 1 + 1 + 1 + 1 + 1 + 1 + 1 + 1 < w'.heap.size := by omega
  exact worlds3 l11 c11_0 c11_1 c11_2 (rows2 0 l4 c4_0 c4_1 (ints2 l2 c2_0 c2_1) (ints2 l3 c3_0 c3_1)) (rows2 1 l7 c7_0 c7_1 (ints2 l5 c5_0 c5_1) (ints2 l6 c6_0 c6_1)) (rows2 2 l10 c10_0 c10_1 (ints2 l8 c8_0 c8_1) (ints2 l9 c9_0 c9_1))
/-- a town of the call's own, as a value -/
def twcS (m : Int) (n k : Nat) (v : Value) : Prop := ∃ (Aw : Option Addr) (cw : Nat) (Af : Option Addr) (cf : Nat), v = .agg #[.int .i64 m, .slice Aw n cw, .slice Af k cf]
def twcR (N : Nat) (t : Qt) (w : World) (v : Value) : Prop := ∀ vW vF, v = .agg #[.int .i64 t.wells, vW, vF] → CopyAt w N vW vF t
theorem twcG {N : Nat} {t : Qt} {m : Int} {n k : Nat} : (Stir.held (twcS m n k) (twcR N t)).good := ⟨⟨_, none, 0, none, 0, rfl⟩, fun _ _ _ hb h vW vF e => (h vW vF e).mono hb⟩
theorem CopyAt.kept {l : List TypeId} {w w' : World} {base : Nat} {vW vF : Value} {t : Qt} (h : CopyAt w base vW vF t) (hk : Kept l w w') (h1 : 3 ∈ l) (h2 : 40 ∈ l) (h3 : 81 ∈ l) (h4 : 53 ∈ l) : CopyAt w' base vW vF t := by
  obtain ⟨⟨us, a, b⟩, c⟩ := h
  exact ⟨⟨us, owns_kept a hk h3, b.kept hk h1 h2⟩, owns_kept c hk h4⟩
theorem CopyOut.twc {w : World} {base N : Nat} {t : Qt} {e : Ending} (h : CopyOut w base t e) (hN : N ≤ base) : ∃ v, e = .returned v ∧ twcS t.wells t.nw t.nf v ∧ twcR N t w v := by
  obtain ⟨vW, vF, rfl, hc⟩ := h
  obtain ⟨Aw, cw, Af, cf, e1, e2, _⟩ := hc.qat
  refine ⟨_, rfl, ⟨Aw, cw, Af, cf, by rw [e1, e2]⟩, fun vW' vF' e => ?_⟩
  simp only [Value.agg.injEq, Array.mk.injEq, List.cons.injEq, and_true, true_and] at e
  obtain ⟨rfl, rfl⟩ := e
  exact hc.lower hN
def ExOut (w : World) (e : Ending) : Prop := ∃ (Aw : Option Addr) (cw : Nat) (Af : Option Addr) (cf : Nat) (Bw : Option Addr) (dw : Nat), e = .returned (.tuple #[.agg #[.int .i64 2, .slice Aw 3 cw, .slice Af 1 cf], .agg #[.int .i64 2, .slice Bw 3 dw, .slice none 0 0]]) ∧ QAt w Aw Af exE ∧ QAt w Bw none exG
set_option maxHeartbeats 4000000 in
set_option maxRecDepth 100000 in
theorem example5_any (w : World) : Calls Tryd.prog 69 #[] w fun e w' => ExOut w' e ∧ Below w.heap.size w w' := by
  go_enter Tryd.func69, Tryd.ntmps69
  go_wp2_with fail
  have hQ := exG_at w
  have hB : Below w.heap.size w ((((((((((((w.alloc (.cells #[.int .i64 0, .slice none 0 0, .slice none 0 0] 25)).alloc (.cells #[.int .i64 2, .slice (some ⟨w.heap.size + 1 + 1 + 1 + 1 + 1 + 1 + 1 + 1 + 1 + 1 + 1, 0, none⟩) 3 3, .slice none 0 0] 25)).alloc (.cells #[.int .i64 3, .int .i64 1] 3)).alloc (.cells #[.int .i64 0, .int .i64 2] 3)).alloc (.cells #[.slice (some ⟨w.heap.size + 1 + 1, 0, none⟩) 2 2, .slice (some ⟨w.heap.size + 1 + 1 + 1, 0, none⟩) 2 2] 40)).alloc (.cells #[.int .i64 3, .int .i64 2] 3)).alloc (.cells #[.int .i64 1, .int .i64 2] 3)).alloc (.cells #[.slice (some ⟨w.heap.size + 1 + 1 + 1 + 1 + 1, 0, none⟩) 2 2, .slice (some ⟨w.heap.size + 1 + 1 + 1 + 1 + 1 + 1, 0, none⟩) 2 2] 40)).alloc (.cells #[.int .i64 3, .int .i64 1] 3)).alloc (.cells #[.int .i64 2, .int .i64 2] 3)).alloc (.cells #[.slice (some ⟨w.heap.size + 1 + 1 + 1 + 1 + 1 + 1 + 1 + 1, 0, none⟩) 2 2, .slice (some ⟨w.heap.size + 1 + 1 + 1 + 1 + 1 + 1 + 1 + 1 + 1, 0, none⟩) 2 2] 40)).alloc (.cells #[.slice (some ⟨w.heap.size + 1 + 1 + 1 + 1, 0, none⟩) 2 2, .slice (some ⟨w.heap.size + 1 + 1 + 1 + 1 + 1 + 1 + 1, 0, none⟩) 2 2, .slice (some ⟨w.heap.size + 1 + 1 + 1 + 1 + 1 + 1 + 1 + 1 + 1 + 1, 0, none⟩) 2 2] 81)) := by (repeat (first | (with_reducible exact Below.refl _ _) | (with_reducible refine bAlloc ?_ _) | (with_reducible refine bDrew ?_) | (with_reducible refine bGrow ?_ _ _) | (with_reducible refine bSet ?_ ?_ _; (first | exact Nat.le_refl _ | exact Nat.le_add_right _ _ | (simp; omega))) | (with_reducible refine bTrans ?_ (by assumption))))
  have hT0 : TBox ((((((((((((w.alloc (.cells #[.int .i64 0, .slice none 0 0, .slice none 0 0] 25)).alloc (.cells #[.int .i64 2, .slice (some ⟨w.heap.size + 1 + 1 + 1 + 1 + 1 + 1 + 1 + 1 + 1 + 1 + 1, 0, none⟩) 3 3, .slice none 0 0] 25)).alloc (.cells #[.int .i64 3, .int .i64 1] 3)).alloc (.cells #[.int .i64 0, .int .i64 2] 3)).alloc (.cells #[.slice (some ⟨w.heap.size + 1 + 1, 0, none⟩) 2 2, .slice (some ⟨w.heap.size + 1 + 1 + 1, 0, none⟩) 2 2] 40)).alloc (.cells #[.int .i64 3, .int .i64 2] 3)).alloc (.cells #[.int .i64 1, .int .i64 2] 3)).alloc (.cells #[.slice (some ⟨w.heap.size + 1 + 1 + 1 + 1 + 1, 0, none⟩) 2 2, .slice (some ⟨w.heap.size + 1 + 1 + 1 + 1 + 1 + 1, 0, none⟩) 2 2] 40)).alloc (.cells #[.int .i64 3, .int .i64 1] 3)).alloc (.cells #[.int .i64 2, .int .i64 2] 3)).alloc (.cells #[.slice (some ⟨w.heap.size + 1 + 1 + 1 + 1 + 1 + 1 + 1 + 1, 0, none⟩) 2 2, .slice (some ⟨w.heap.size + 1 + 1 + 1 + 1 + 1 + 1 + 1 + 1 + 1, 0, none⟩) 2 2] 40)).alloc (.cells #[.slice (some ⟨w.heap.size + 1 + 1 + 1 + 1, 0, none⟩) 2 2, .slice (some ⟨w.heap.size + 1 + 1 + 1 + 1 + 1 + 1 + 1, 0, none⟩) 2 2, .slice (some ⟨w.heap.size + 1 + 1 + 1 + 1 + 1 + 1 + 1 + 1 + 1 + 1, 0, none⟩) 2 2] 81)) w.heap.size 25 #[.int .i64 0, .slice none 0 0, .slice none 0 0] := TBox.mono (TBox.new w #[.int .i64 0, .slice none 0 0, .slice none 0 0] 25) (by (repeat (first | (with_reducible exact Below.refl _ _) | (with_reducible refine bAlloc ?_ _) | (with_reducible refine bDrew ?_) | (with_reducible refine bGrow ?_ _ _) | (with_reducible refine bSet ?_ ?_ _; (first | exact Nat.le_refl _ | exact Nat.le_add_right _ _ | (simp; omega))) | (with_reducible refine bTrans ?_ (by assumption)))))
  have hT1 : TBox ((((((((((((w.alloc (.cells #[.int .i64 0, .slice none 0 0, .slice none 0 0] 25)).alloc (.cells #[.int .i64 2, .slice (some ⟨w.heap.size + 1 + 1 + 1 + 1 + 1 + 1 + 1 + 1 + 1 + 1 + 1, 0, none⟩) 3 3, .slice none 0 0] 25)).alloc (.cells #[.int .i64 3, .int .i64 1] 3)).alloc (.cells #[.int .i64 0, .int .i64 2] 3)).alloc (.cells #[.slice (some ⟨w.heap.size + 1 + 1, 0, none⟩) 2 2, .slice (some ⟨w.heap.size + 1 + 1 + 1, 0, none⟩) 2 2] 40)).alloc (.cells #[.int .i64 3, .int .i64 2] 3)).alloc (.cells #[.int .i64 1, .int .i64 2] 3)).alloc (.cells #[.slice (some ⟨w.heap.size + 1 + 1 + 1 + 1 + 1, 0, none⟩) 2 2, .slice (some ⟨w.heap.size + 1 + 1 + 1 + 1 + 1 + 1, 0, none⟩) 2 2] 40)).alloc (.cells #[.int .i64 3, .int .i64 1] 3)).alloc (.cells #[.int .i64 2, .int .i64 2] 3)).alloc (.cells #[.slice (some ⟨w.heap.size + 1 + 1 + 1 + 1 + 1 + 1 + 1 + 1, 0, none⟩) 2 2, .slice (some ⟨w.heap.size + 1 + 1 + 1 + 1 + 1 + 1 + 1 + 1 + 1, 0, none⟩) 2 2] 40)).alloc (.cells #[.slice (some ⟨w.heap.size + 1 + 1 + 1 + 1, 0, none⟩) 2 2, .slice (some ⟨w.heap.size + 1 + 1 + 1 + 1 + 1 + 1 + 1, 0, none⟩) 2 2, .slice (some ⟨w.heap.size + 1 + 1 + 1 + 1 + 1 + 1 + 1 + 1 + 1 + 1, 0, none⟩) 2 2] 81)) (w.heap.size + 1) 25 #[.int .i64 2, .slice (some ⟨w.heap.size + 1 + 1 + 1 + 1 + 1 + 1 + 1 + 1 + 1 + 1 + 1, 0, none⟩) 3 3, .slice none 0 0] := by
    have := TBox.mono (TBox.new (w.alloc (.cells #[.int .i64 0, .slice none 0 0, .slice none 0 0] 25)) #[.int .i64 2, .slice (some ⟨w.heap.size + 1 + 1 + 1 + 1 + 1 + 1 + 1 + 1 + 1 + 1 + 1, 0, none⟩) 3 3, .slice none 0 0] 25) (w' := ((((((((((((w.alloc (.cells #[.int .i64 0, .slice none 0 0, .slice none 0 0] 25)).alloc (.cells #[.int .i64 2, .slice (some ⟨w.heap.size + 1 + 1 + 1 + 1 + 1 + 1 + 1 + 1 + 1 + 1 + 1, 0, none⟩) 3 3, .slice none 0 0] 25)).alloc (.cells #[.int .i64 3, .int .i64 1] 3)).alloc (.cells #[.int .i64 0, .int .i64 2] 3)).alloc (.cells #[.slice (some ⟨w.heap.size + 1 + 1, 0, none⟩) 2 2, .slice (some ⟨w.heap.size + 1 + 1 + 1, 0, none⟩) 2 2] 40)).alloc (.cells #[.int .i64 3, .int .i64 2] 3)).alloc (.cells #[.int .i64 1, .int .i64 2] 3)).alloc (.cells #[.slice (some ⟨w.heap.size + 1 + 1 + 1 + 1 + 1, 0, none⟩) 2 2, .slice (some ⟨w.heap.size + 1 + 1 + 1 + 1 + 1 + 1, 0, none⟩) 2 2] 40)).alloc (.cells #[.int .i64 3, .int .i64 1] 3)).alloc (.cells #[.int .i64 2, .int .i64 2] 3)).alloc (.cells #[.slice (some ⟨w.heap.size + 1 + 1 + 1 + 1 + 1 + 1 + 1 + 1, 0, none⟩) 2 2, .slice (some ⟨w.heap.size + 1 + 1 + 1 + 1 + 1 + 1 + 1 + 1 + 1, 0, none⟩) 2 2] 40)).alloc (.cells #[.slice (some ⟨w.heap.size + 1 + 1 + 1 + 1, 0, none⟩) 2 2, .slice (some ⟨w.heap.size + 1 + 1 + 1 + 1 + 1 + 1 + 1, 0, none⟩) 2 2, .slice (some ⟨w.heap.size + 1 + 1 + 1 + 1 + 1 + 1 + 1 + 1 + 1 + 1, 0, none⟩) 2 2] 81))) (by (repeat (first | (with_reducible exact Below.refl _ _) | (with_reducible refine bAlloc ?_ _) | (with_reducible refine bDrew ?_) | (with_reducible refine bGrow ?_ _ _) | (with_reducible refine bSet ?_ ?_ _; (first | exact Nat.le_refl _ | exact Nat.le_add_right _ _ | (simp; omega))) | (with_reducible refine bTrans ?_ (by assumption)))))
    simpa [TBox] using this
  generalize ((((((((((((w.alloc (.cells #[.int .i64 0, .slice none 0 0, .slice none 0 0] 25)).alloc (.cells #[.int .i64 2, .slice (some ⟨w.heap.size + 1 + 1 + 1 + 1 + 1 + 1 + 1 + 1 + 1 + 1 + 1, 0, none⟩) 3 3, .slice none 0 0] 25)).alloc (.cells #[.int .i64 3, .int .i64 1] 3)).alloc (.cells #[.int .i64 0, .int .i64 2] 3)).alloc (.cells #[.slice (some ⟨w.heap.size + 1 + 1, 0, none⟩) 2 2, .slice (some ⟨w.heap.size + 1 + 1 + 1, 0, none⟩) 2 2] 40)).alloc (.cells #[.int .i64 3, .int .i64 2] 3)).alloc (.cells #[.int .i64 1, .int .i64 2] 3)).alloc (.cells #[.slice (some ⟨w.heap.size + 1 + 1 + 1 + 1 + 1, 0, none⟩) 2 2, .slice (some ⟨w.heap.size + 1 + 1 + 1 + 1 + 1 + 1, 0, none⟩) 2 2] 40)).alloc (.cells #[.int .i64 3, .int .i64 1] 3)).alloc (.cells #[.int .i64 2, .int .i64 2] 3)).alloc (.cells #[.slice (some ⟨w.heap.size + 1 + 1 + 1 + 1 + 1 + 1 + 1 + 1, 0, none⟩) 2 2, .slice (some ⟨w.heap.size + 1 + 1 + 1 + 1 + 1 + 1 + 1 + 1 + 1, 0, none⟩) 2 2] 40)).alloc (.cells #[.slice (some ⟨w.heap.size + 1 + 1 + 1 + 1, 0, none⟩) 2 2, .slice (some ⟨w.heap.size + 1 + 1 + 1 + 1 + 1 + 1 + 1, 0, none⟩) 2 2, .slice (some ⟨w.heap.size + 1 + 1 + 1 + 1 + 1 + 1 + 1 + 1 + 1 + 1, 0, none⟩) 2 2] 81)) = W at *
  generalize w.heap.size + 1 + 1 + 1 + 1 + 1 + 1 + 1 + 1 + 1 + 1 + 1 = B at *
  have HQA := Lib.hid hQ
  have HQ := Lib.hid (hQ W (fun _ _ _ => rfl) (Nat.le_refl _))
  have HB := Lib.hid hB
  have HT0 := Lib.hid hT0
  have HT1 := Lib.hid hT1
  have c10 : W.cell? ⟨w.heap.size + 1, 0, none⟩ = some (.int .i64 2) := hT1.cell 0
  have c11 : W.cell? ⟨w.heap.size + 1, 1, none⟩ = some (.slice (some ⟨B, 0, none⟩) 3 3) := hT1.cell 1
  have c12 : W.cell? ⟨w.heap.size + 1, 2, none⟩ = some (.slice none 0 0) := hT1.cell 2
  have hl1 := hT1.lt
  have HTL := Lib.hid (fun (w' : World) (hb : Below W.heap.size W w') => (told5_any (some ⟨B, 0, none⟩) none 3 0 exG exF w' exG_fits (HQ.out.mono hb) : Calls Tryd.prog 36 #[.agg #[.int .i64 2, .slice (some ⟨B, 0, none⟩) 3 3, .slice none 0 0], .agg #[.int .i64 0, .int .i64 2, .int .i64 1, .int .i64 2, .int .i64 3]] w' fun e w'' => CopyOut w'' w'.heap.size exE e ∧ Below w'.heap.size w' w''))
  clear hQ hB hT0 hT1
  refine wp_region_tardy 4 3 [.const (.agg #[.int .i64 2, .slice (some ⟨B, 0, none⟩) 3 3, .slice none 0 0]), .const (.agg #[.int .i64 0, .int .i64 2, .int .i64 1, .int .i64 2, .int .i64 3]), .held (twcS 2 3 1) (twcR W.heap.size exE), .const (.agg #[.int .i64 2, .slice (some ⟨B, 0, none⟩) 3 3, .slice none 0 0])]
    (.agg #[.int .i64 2, .slice (some ⟨B, 0, none⟩) 3 3, .slice none 0 0]) (by kernel_rfl) (by kernel_rfl) rfl ⟨trivial, trivial, twcG, trivial, trivial⟩ (crossAll_no _ _ _ _ trivial) rfl rfl rfl rfl rfl rfl ?_
  iterate 2 refine wpStir_const (by go_simp) ?_
  simp only [Act.put, List.setIfInBounds_toArray, List.set_cons_succ, List.set_cons_zero]
  refine wpStir_held rfl (fun w' hb hd => ?_) (fun v hv => ?_)
  · clear hd
    go_simp
    refine (HTL.out w' hb).mono ?_
    rintro e w'' ⟨ho, hb'⟩
    obtain ⟨v, rfl, h1, h2⟩ := ho.twc hb.size
    exact ⟨v, rfl, hb', h1, h2⟩
  obtain ⟨Aw, cw, Af, cf, rfl⟩ := hv
  refine wpStir_const (by go_simp) ?_
  simp only [Act.put, List.setIfInBounds_toArray, List.set_cons_succ, List.set_cons_zero]
  refine wpStir_end (fun w5 hb5 hd => ?_)
  have hcp : CopyAt w5 W.heap.size _ _ exE := hd.1 _ _ rfl
  clear hd c10 c11 c12
  have HC := Lib.hid hcp
  have h0 := HT0.out.mono hb5
  have h1 := HT1.out.mono hb5
  have H0 := Lib.hid h0
  have H1 := Lib.hid h1
  have HB5 := Lib.hid (bTrans HB.out hb5)
  have HBW := Lib.hid hb5
  have HZ5 := Lib.hid hb5.size
  have a0 : w5.cell? ⟨w.heap.size, 0, none⟩ = some (.int .i64 0) := h0.cell 0
  have a1 : w5.cell? ⟨w.heap.size, 1, none⟩ = some (.slice none 0 0) := h0.cell 1
  have a2 : w5.cell? ⟨w.heap.size, 2, none⟩ = some (.slice none 0 0) := h0.cell 2
  have b0 : w5.cell? ⟨w.heap.size + 1, 0, none⟩ = some (.int .i64 2) := h1.cell 0
  have b1 : w5.cell? ⟨w.heap.size + 1, 1, none⟩ = some (.slice (some ⟨B, 0, none⟩) 3 3) := h1.cell 1
  have b2 : w5.cell? ⟨w.heap.size + 1, 2, none⟩ = some (.slice none 0 0) := h1.cell 2
  have f0 := h0.frozen 0
  have f1 := h0.frozen 1
  have f2 := h0.frozen 2
  have g0 := h1.frozen 0
  have g1 := h1.frozen 1
  have g2 := h1.frozen 2
  have l1 : w.heap.size + 1 < w5.heap.size := h1.lt
  have l0 : w.heap.size < w5.heap.size := h0.lt
  clear h0 h1 hcp hb5
  obtain ⟨w6, hw6⟩ : ∃ w6, ((w5.setCell ⟨w.heap.size, 0, none⟩ (.int .i64 2)).setCell ⟨w.heap.size, 1, none⟩ (.slice Aw 3 cw)).setCell ⟨w.heap.size, 2, none⟩ (.slice Af 1 cf) = w6 := ⟨_, rfl⟩
  have h0 : TBox w6 w.heap.size 25 #[.int .i64 2, .slice Aw 3 cw, .slice Af 1 cf] := hw6 ▸ ((H0.out.set 0 (.int .i64 2)).set 1 (.slice Aw 3 cw)).set 2 (.slice Af 1 cf)
  have h1 : TBox w6 (w.heap.size + 1) 25 #[.int .i64 2, .slice (some ⟨B, 0, none⟩) 3 3, .slice none 0 0] := hw6 ▸ ((H1.out.other (by omega) 0 (.int .i64 2)).other (by omega) 1 (.slice Aw 3 cw)).other (by omega) 2 (.slice Af 1 cf)
  have k0 : Kept [3, 40, 81, 53] w5 w6 := hw6 ▸ ((Kept.set H0.out (by decide) 0 (.int .i64 2)).trans (Kept.set (H0.out.set 0 (.int .i64 2)) (by decide) 1 (.slice Aw 3 cw))).trans (Kept.set ((H0.out.set 0 (.int .i64 2)).set 1 (.slice Aw 3 cw)) (by decide) 2 (.slice Af 1 cf))
  have hb6 : Below w.heap.size w w6 := hw6 ▸ Below.setCell (p := ⟨w.heap.size, 2, none⟩) (Below.setCell (p := ⟨w.heap.size, 1, none⟩) (Below.setCell (p := ⟨w.heap.size, 0, none⟩) HB5.out (by simp) (.int .i64 2)) (by simp) (.slice Aw 3 cw)) (by simp) (.slice Af 1 cf)
  have HH6 := Lib.hid (show ∀ b, b ≠ w.heap.size → w6.heap[b]? = w5.heap[b]? from fun b hb => by
    rw [← hw6, Below.heap_setCell _ _ _ b hb, Below.heap_setCell _ _ _ b hb, Below.heap_setCell _ _ _ b hb])
  have HW6 := Lib.hid hw6
  have H60 := Lib.hid h0
  have H61 := Lib.hid h1
  have HK6 := Lib.hid k0
  have HB6 := Lib.hid hb6
  clear hw6 k0 hb6 h0 h1
  have d0 : w6.cell? ⟨w.heap.size + 1, 0, none⟩ = some (.int .i64 2) := H61.out.cell 0
  have d1 : w6.cell? ⟨w.heap.size + 1, 1, none⟩ = some (.slice (some ⟨B, 0, none⟩) 3 3) := H61.out.cell 1
  have d2 : w6.cell? ⟨w.heap.size + 1, 2, none⟩ = some (.slice none 0 0) := H61.out.cell 2
  have l6 : w.heap.size + 1 < w6.heap.size := H61.out.lt
  refine ⟨w6, by rw [← HW6.out]; go_simp, by go_simp, ?_⟩
  clear a0 a1 a2 b0 b1 b2 f0 f1 f2 g0 g1 g2 l1 l0 HW6
  have e0 : w6.cell? ⟨w.heap.size, 0, none⟩ = some (.int .i64 2) := H60.out.cell 0
  have e1 : w6.cell? ⟨w.heap.size, 1, none⟩ = some (.slice Aw 3 cw) := H60.out.cell 1
  have e2 : w6.cell? ⟨w.heap.size, 2, none⟩ = some (.slice Af 1 cf) := H60.out.cell 2
  have g0 := H61.out.frozen 0
  have g1 := H61.out.frozen 1
  have g2 := H61.out.frozen 2
  simp only [List.drop_succ_cons, List.drop_zero]
  go_wp2_with fail
  have r1 := H61.out.set 0 (.int .i64 2)
  have r2 := r1.set 1 (.slice (some ⟨B, 0, none⟩) 3 3)
  have k9 := HK6.out.trans (((Kept.set (l := [3, 40, 81, 53]) H61.out (by decide) 0 (.int .i64 2)).trans (Kept.set r1 (by decide) 1 (.slice (some ⟨B, 0, none⟩) 3 3))).trans (Kept.set r2 (by decide) 2 (.slice none 0 0)))
  have hc9 := HC.out.kept k9 (by simp) (by simp) (by simp) (by simp)
  obtain ⟨A1, c1, A2, c2, e1, e2, hq⟩ := hc9.qat
  injection e1 with e1 x1 e1'
  injection e2 with e2 x2 e2'
  clear x1 x2
  subst e1 e1' e2 e2'
  have hs9 := k9.1
  have hz5 := HB5.out.size
  refine bodyPost_ret (v := .tuple #[.agg #[.int .i64 2, .slice Aw 3 cw, .slice Af 1 cf], .agg #[.int .i64 2, .slice (some ⟨B, 0, none⟩) 3 3, .slice none 0 0]]) (by simp [results, Tryd.results69, go_sem, *]) rfl ⟨⟨Aw, cw, Af, cf, _, 3, rfl, hq, HQA.out _ (fun b h1 h2 => ?_) (Nat.le_trans HZ5.out hs9)⟩, ?_⟩
  · rw [Below.heap_setCell _ _ _ b (by show b ≠ w.heap.size + 1; omega), Below.heap_setCell _ _ _ b (by show b ≠ w.heap.size + 1; omega), Below.heap_setCell _ _ _ b (by show b ≠ w.heap.size + 1; omega)]
    rw [HH6.out b (by omega)]
    exact HBW.out.block b h2
  · exact Below.setCell (p := ⟨w.heap.size + 1, 2, none⟩) (Below.setCell (p := ⟨w.heap.size + 1, 1, none⟩) (Below.setCell (p := ⟨w.heap.size + 1, 0, none⟩) HB6.out (by simp) (.int .i64 2)) (by simp) (.slice (some ⟨B, 0, none⟩) 3 3)) (by simp) (.slice none 0 0)
end Go.Proofs.YtchhodikgllgnaaDoor
