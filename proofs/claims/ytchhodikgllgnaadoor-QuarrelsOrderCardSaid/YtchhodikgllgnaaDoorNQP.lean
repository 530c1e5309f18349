/- Parts joined. -/
import Derived.Test.YtchhodikgllgnaaDoorNQJ
import Derived.Test.YtchhodikgllgnaaDoorNQN
import Derived.Test.YtchhodikgllgnaaDoorNQM
import Derived.Test.YtchhodikgllgnaaDoorNQO
import Derived.Test.YtchhodikgllgnaaDoorNQG
import Derived.Test.YtchhodikgllgnaaDoorNQL
set_option linter.unusedSimpArgs false
set_option linter.unusedVariables false
/- The walk of Decide of the package quarrels: its first region, where it ends in an error. Conditions: lengths are Go's; the listed table holds what it holds. -/
namespace Go.Proofs.YtchhodikgllgnaaDoor
open Go.RowKit Go.Sort Go.Shelf
/-- a pointer's box, new -/
def ptrS (v : Value) : Prop := ∃ b, v = .pointer (some ⟨b, 0, none⟩)
def ptrR (base : Nat) (w : World) (v : Value) : Prop := ∀ b, v = .pointer (some ⟨b, 0, none⟩) → base ≤ b ∧ w.heap[b]? = some (.cells #[.pointer none] 89 (0, 0))
theorem ptrG (base : Nat) : (Stir.held ptrS (ptrR base)).good := ⟨⟨_, 0, rfl⟩, fun _ _ _ hb h b e => ⟨(h b e).1, (hb.block b (Array.getElem?_eq_some_iff.1 (h b e).2).1).trans (h b e).2⟩⟩
theorem ptrR_new {base : Nat} {w : World} (h : base ≤ w.heap.size) : ptrR base (w.alloc (.cells #[.pointer none] 89)) (.pointer (some ⟨w.heap.size, 0, none⟩)) := fun b e => by
  obtain rfl : w.heap.size = b := by simpa using e
  exact ⟨h, heap_alloc_new _ _⟩
/-- the tests but one -/
def Qt.others (t : Qt) (x : Tp) : List Tp := t.tests.filter fun y => y != x
/-- what Decide says -/
noncomputable def Qt.decErr (t : Qt) (p q law : Int) : Int :=
  if t.knowErr (t.wellB p && t.wellB q && inR law 0 99) = 0 then (if t.decides (t.others (p.toNat, q.toNat)) t.leftL (p.toNat, q.toNat) law then 0 else 3) else t.knowErr (t.wellB p && t.wellB q && inR law 0 99)
/-- the tests of Decide -/
def Qt.decL (t : Qt) (p q law : Int) : List Tp := fewestL (t.others (p.toNat, q.toNat)) fun l => t.decides l t.leftL (p.toNat, q.toNat) law
theorem wpStir_gcall {P : Program} {md : Region.Mode} {ops : Array Oper} {W : World} {Q : Act → World → Prop} {k : Nat} {o : Oper} {l : List Oper} {c : Value} {hs : List Stir} {a : Act} {F : List (Nat × (World → Prop))} (hw : Region.wanted o (yielded ops a.tmps) = true)
    (h1 : ∀ w', Below W.heap.size W w' → depsP md ops k F w' → Oper.stirAt P o a w' Newer (fun _ v => v = c))
    (h2 : wpStir P md ops W Q (k + 1) l hs (a.put o.dst c) F) : wpStir P md ops W Q k (o :: l) (.const c :: hs) a F := by
  refine wpStir_const ?_ h2
  rw [if_pos hw]
  exact fun p => h1 _ (below_regrown _ _ _)
set_option maxHeartbeats 4000000 in
set_option maxRecDepth 100000 in
theorem decideQ_err (Aw Af : Option Addr) (cw cf : Nat) (t : Qt) (p q law : Int) (w : World) (hs : t.Small) (hT : QAt w Aw Af t) (hne : t.knowErr (t.wellB p && t.wellB q && inR law 0 99) ≠ 0) :
    Calls Tryd.prog 60 #[.agg #[.int .i64 t.wells, .slice Aw t.nw cw, .slice Af t.nf cf], .int .i64 p, .int .i64 q, .int .i64 law] w fun e w' => e = .returned (.tuple #[.slice none 0 0, .int .i64 (t.knowErr (t.wellB p && t.wellB q && inR law 0 99))]) ∧ Below w.heap.size w w' := by
  have hb0 := bAlloc (bAlloc (Below.refl w.heap.size w) (.cells #[.int .i64 t.wells, .slice Aw t.nw cw, .slice Af t.nf cf] 25)) (.cells #[.int .i64 law] 3)
  have HT := Lib.hid (hT.mono hb0)
  have HB := Lib.hid hb0
  clear hT hb0
  obtain ⟨b1, h1⟩ : ∃ b, t.wellB p = b := ⟨_, rfl⟩
  obtain ⟨b2, h2⟩ : ∃ b, t.wellB q = b := ⟨_, rfl⟩
  obtain ⟨b3, h3⟩ : ∃ b, inR law 0 99 = b := ⟨_, rfl⟩
  have HC1 := Lib.hid (fun w => h1 ▸ isWellQ_any Aw Af cw cf t p w : ∀ w : World, Calls Tryd.prog 71 #[.agg #[.int .i64 t.wells, .slice Aw t.nw cw, .slice Af t.nf cf], .int .i64 p] w fun e w' => e = .returned (.bool b1) ∧ Below w.heap.size w w')
  have HC2 := Lib.hid (fun w => h2 ▸ isWellQ_any Aw Af cw cf t q w : ∀ w : World, Calls Tryd.prog 71 #[.agg #[.int .i64 t.wells, .slice Aw t.nw cw, .slice Af t.nf cf], .int .i64 q] w fun e w' => e = .returned (.bool b2) ∧ Below w.heap.size w w')
  have HC3 := Lib.hid (fun w => h3 ▸ isLawQ_any law w : ∀ w : World, Calls Tryd.prog 87 #[.int .i64 law] w fun e w' => e = .returned (.bool b3) ∧ Below w.heap.size w w')
  rw [h1, h2, h3] at hne ⊢
  obtain ⟨bb, hbb⟩ : ∃ bb, (b1 && b2 && b3) = bb := ⟨_, rfl⟩
  rw [hbb] at hne ⊢
  obtain ⟨er, her⟩ : ∃ er, t.knowErr bb = er := ⟨_, rfl⟩
  rw [her] at hne ⊢
  have HCO := Lib.hid (fun (w' : World) (hb : Below ((w.alloc (.cells #[.int .i64 t.wells, .slice Aw t.nw cw, .slice Af t.nf cf] 25)).alloc (.cells #[.int .i64 law] 3)).heap.size ((w.alloc (.cells #[.int .i64 t.wells, .slice Aw t.nw cw, .slice Af t.nf cf] 25)).alloc (.cells #[.int .i64 law] 3)) w') => ((openQ_any Aw Af cw cf t bb w' hs (HT.out.mono hb)).mono fun e w'' h => ⟨(h.1.1 (by rw [her]; exact hne)).trans (by rw [her]), h.2⟩ : Calls Tryd.prog 70 #[.agg #[.int .i64 t.wells, .slice Aw t.nw cw, .slice Af t.nf cf], .bool bb] w' fun e w'' => e = .returned (.tuple #[.pointer none, .int .i64 er]) ∧ Below w'.heap.size w' w''))
  have HG := Lib.hid hbb
  have g0 : (er != 0) = true := by simp [hne]
  clear h1 h2 h3 her hbb hne
  refine (callsIn_wide (n := 9)).1 ?_
  refine callsIn_of_wp Tryd.func60 rfl trivial ?_ rfl
  simp only [Tryd.ntmps60, List.size_toArray, List.length_cons, List.length_nil, Nat.reduceAdd, Nat.reduceSub, Array.replicate_succ, Array.replicate_zero, List.push_toArray, List.append_toArray, List.nil_append, List.cons_append]
  gi_wp2
  rcases three_ways b1 b2 b3 with rfl | ⟨rfl, rfl⟩ | ⟨rfl, rfl, rfl⟩ | ⟨rfl, rfl, rfl⟩
  · obtain rfl := HG.out
    refine wpIn_region_late (openWide _) 18 16 [.const (.agg #[.int .i64 t.wells, .slice Aw t.nw cw, .slice Af t.nf cf]), .const (.agg #[.int .i64 t.wells, .slice Aw t.nw cw, .slice Af t.nf cf]), .const (.int .i64 p), .const (.bool false), .const (.bool false), .const (undef), .const (undef), .const (undef), .const (.bool false), .const (.bool false), .const (undef), .const (undef), .const (.bool false), .const (.tuple #[.pointer none, .int .i64 er]), .const (.tuple #[.pointer none, .int .i64 er]), .const (.pointer none), .const (.int .i64 er), .held ptrS (ptrR w.heap.size)] (by kernel_rfl) (by kernel_rfl) rfl ⟨trivial, trivial, trivial, trivial, trivial, trivial, trivial, trivial, trivial, trivial, trivial, trivial, trivial, trivial, trivial, trivial, trivial, ptrG _, trivial⟩ (crossAll_no _ _ _ _ trivial) rfl rfl rfl (fun _ => ⟨_, _, _, _, rfl, rfl, rfl, rfl⟩) ?_
    iterate 3 refine wpStir_const (by go_simp) ?_
    refine wpStir_call rfl (fun w' hb hd => ?_) ?_
    · clear hd
      go_simp
      refine (HC1.out w').mono ?_
      rintro e w'' ⟨rfl, hb'⟩
      exact ⟨rfl, hb'⟩
    iterate 3 refine wpStir_const (by go_simp) ?_
    refine wpStir_const (by go_simp) ?_
    iterate 3 refine wpStir_const (by go_simp) ?_
    refine wpStir_const (by go_simp) ?_
    refine wpStir_const (by go_simp) ?_
    refine wpStir_call rfl (fun w' hb hd => ?_) ?_
    · clear hd
      go_simp
      refine (HCO.out w' hb).mono ?_
      rintro e w'' ⟨rfl, hb'⟩
      exact ⟨rfl, hb'⟩
    iterate 3 refine wpStir_const (by go_simp) ?_
    refine wpStir_held rfl (fun w' hb hd => ?_) (fun v hv => ?_)
    · clear hd
      go_simp
      exact ⟨bAlloc (Below.refl _ _) _, ⟨_, rfl⟩, ptrR_new (Nat.le_trans HB.out.size hb.size)⟩
    obtain ⟨b, rfl⟩ := hv
    refine wpStir_end (fun w5 hb5 hd => ?_)
    have hp := (hd.1 b rfl).2
    have hpb := (hd.1 b rfl).1
    have hpc : w5.cell? ⟨b, 0, none⟩ = some (.pointer none) := by simp [World.cell?, hp]
    have hpf : w5.frozen? ⟨b, 0, none⟩ = false := by simp [World.frozen?, hp]
    have HBS := Lib.hid (Below.setCell (p := ⟨b, 0, none⟩) (bTrans HB.out hb5) hpb (.pointer none))
    clear hp hb5
    clear hd
    simp only [List.drop_succ_cons, List.drop_zero]
    simp only [Act.put, List.setIfInBounds_toArray, List.set_cons_succ, List.set_cons_zero]
    refine ⟨w5.setCell ⟨b, 0, none⟩ (.pointer none), by go_simp, ?_⟩
    gi_wp2
    refine bodyPost_ret (by simp [results, Tryd.results60]; rfl) rfl ?_
    exact ⟨rfl, HBS.out⟩
  · obtain rfl := HG.out
    refine wpIn_region_late (openWide _) 18 16 [.const (.agg #[.int .i64 t.wells, .slice Aw t.nw cw, .slice Af t.nf cf]), .const (.agg #[.int .i64 t.wells, .slice Aw t.nw cw, .slice Af t.nf cf]), .const (.int .i64 p), .const (.bool true), .const (.bool true), .const ((.agg #[.int .i64 t.wells, .slice Aw t.nw cw, .slice Af t.nf cf])), .const ((.int .i64 q)), .const (.bool false), .const (.bool false), .const (.bool false), .const (undef), .const (undef), .const (.bool false), .const (.tuple #[.pointer none, .int .i64 er]), .const (.tuple #[.pointer none, .int .i64 er]), .const (.pointer none), .const (.int .i64 er), .held ptrS (ptrR w.heap.size)] (by kernel_rfl) (by kernel_rfl) rfl ⟨trivial, trivial, trivial, trivial, trivial, trivial, trivial, trivial, trivial, trivial, trivial, trivial, trivial, trivial, trivial, trivial, trivial, ptrG _, trivial⟩ (crossAll_no _ _ _ _ trivial) rfl rfl rfl (fun _ => ⟨_, _, _, _, rfl, rfl, rfl, rfl⟩) ?_
    iterate 3 refine wpStir_const (by go_simp) ?_
    refine wpStir_call rfl (fun w' hb hd => ?_) ?_
    · clear hd
      go_simp
      refine (HC1.out w').mono ?_
      rintro e w'' ⟨rfl, hb'⟩
      exact ⟨rfl, hb'⟩
    iterate 3 refine wpStir_const (by go_simp) ?_
    refine wpStir_gcall (by kernel_rfl) (fun w' hb hd => ?_) ?_
    · clear hd
      go_simp
      refine (HC2.out w').mono ?_
      rintro e w'' ⟨rfl, hb'⟩
      exact ⟨rfl, hb'⟩
    iterate 3 refine wpStir_const (by go_simp) ?_
    refine wpStir_const (by go_simp) ?_
    refine wpStir_const (by go_simp) ?_
    refine wpStir_call rfl (fun w' hb hd => ?_) ?_
    · clear hd
      go_simp
      refine (HCO.out w' hb).mono ?_
      rintro e w'' ⟨rfl, hb'⟩
      exact ⟨rfl, hb'⟩
    iterate 3 refine wpStir_const (by go_simp) ?_
    refine wpStir_held rfl (fun w' hb hd => ?_) (fun v hv => ?_)
    · clear hd
      go_simp
      exact ⟨bAlloc (Below.refl _ _) _, ⟨_, rfl⟩, ptrR_new (Nat.le_trans HB.out.size hb.size)⟩
    obtain ⟨b, rfl⟩ := hv
    refine wpStir_end (fun w5 hb5 hd => ?_)
    have hp := (hd.1 b rfl).2
    have hpb := (hd.1 b rfl).1
    have hpc : w5.cell? ⟨b, 0, none⟩ = some (.pointer none) := by simp [World.cell?, hp]
    have hpf : w5.frozen? ⟨b, 0, none⟩ = false := by simp [World.frozen?, hp]
    have HBS := Lib.hid (Below.setCell (p := ⟨b, 0, none⟩) (bTrans HB.out hb5) hpb (.pointer none))
    clear hp hb5
    clear hd
    simp only [List.drop_succ_cons, List.drop_zero]
    simp only [Act.put, List.setIfInBounds_toArray, List.set_cons_succ, List.set_cons_zero]
    refine ⟨w5.setCell ⟨b, 0, none⟩ (.pointer none), by go_simp, ?_⟩
    gi_wp2
    refine bodyPost_ret (by simp [results, Tryd.results60]; rfl) rfl ?_
    exact ⟨rfl, HBS.out⟩
  · obtain rfl := HG.out
    refine wpIn_region_late (openWide _) 18 16 [.const (.agg #[.int .i64 t.wells, .slice Aw t.nw cw, .slice Af t.nf cf]), .const (.agg #[.int .i64 t.wells, .slice Aw t.nw cw, .slice Af t.nf cf]), .const (.int .i64 p), .const (.bool true), .const (.bool true), .const ((.agg #[.int .i64 t.wells, .slice Aw t.nw cw, .slice Af t.nf cf])), .const ((.int .i64 q)), .const (.bool true), .const (.bool true), .const (.bool true), .const ((.int .i64 law)), .const (.bool false), .const (.bool false), .const (.tuple #[.pointer none, .int .i64 er]), .const (.tuple #[.pointer none, .int .i64 er]), .const (.pointer none), .const (.int .i64 er), .held ptrS (ptrR w.heap.size)] (by kernel_rfl) (by kernel_rfl) rfl ⟨trivial, trivial, trivial, trivial, trivial, trivial, trivial, trivial, trivial, trivial, trivial, trivial, trivial, trivial, trivial, trivial, trivial, ptrG _, trivial⟩ (crossAll_no _ _ _ _ trivial) rfl rfl rfl (fun _ => ⟨_, _, _, _, rfl, rfl, rfl, rfl⟩) ?_
    iterate 3 refine wpStir_const (by go_simp) ?_
    refine wpStir_call rfl (fun w' hb hd => ?_) ?_
    · clear hd
      go_simp
      refine (HC1.out w').mono ?_
      rintro e w'' ⟨rfl, hb'⟩
      exact ⟨rfl, hb'⟩
    iterate 3 refine wpStir_const (by go_simp) ?_
    refine wpStir_gcall (by kernel_rfl) (fun w' hb hd => ?_) ?_
    · clear hd
      go_simp
      refine (HC2.out w').mono ?_
      rintro e w'' ⟨rfl, hb'⟩
      exact ⟨rfl, hb'⟩
    iterate 3 refine wpStir_const (by go_simp) ?_
    refine wpStir_gcall (by kernel_rfl) (fun w' hb hd => ?_) ?_
    · clear hd
      go_simp
      refine (HC3.out w').mono ?_
      rintro e w'' ⟨rfl, hb'⟩
      exact ⟨rfl, hb'⟩
    refine wpStir_const (by go_simp) ?_
    refine wpStir_call rfl (fun w' hb hd => ?_) ?_
    · clear hd
      go_simp
      refine (HCO.out w' hb).mono ?_
      rintro e w'' ⟨rfl, hb'⟩
      exact ⟨rfl, hb'⟩
    iterate 3 refine wpStir_const (by go_simp) ?_
    refine wpStir_held rfl (fun w' hb hd => ?_) (fun v hv => ?_)
    · clear hd
      go_simp
      exact ⟨bAlloc (Below.refl _ _) _, ⟨_, rfl⟩, ptrR_new (Nat.le_trans HB.out.size hb.size)⟩
    obtain ⟨b, rfl⟩ := hv
    refine wpStir_end (fun w5 hb5 hd => ?_)
    have hp := (hd.1 b rfl).2
    have hpb := (hd.1 b rfl).1
    have hpc : w5.cell? ⟨b, 0, none⟩ = some (.pointer none) := by simp [World.cell?, hp]
    have hpf : w5.frozen? ⟨b, 0, none⟩ = false := by simp [World.frozen?, hp]
    have HBS := Lib.hid (Below.setCell (p := ⟨b, 0, none⟩) (bTrans HB.out hb5) hpb (.pointer none))
    clear hp hb5
    clear hd
    simp only [List.drop_succ_cons, List.drop_zero]
    simp only [Act.put, List.setIfInBounds_toArray, List.set_cons_succ, List.set_cons_zero]
    refine ⟨w5.setCell ⟨b, 0, none⟩ (.pointer none), by go_simp, ?_⟩
    gi_wp2
    refine bodyPost_ret (by simp [results, Tryd.results60]; rfl) rfl ?_
    exact ⟨rfl, HBS.out⟩
  · obtain rfl := HG.out
    refine wpIn_region_late (openWide _) 18 16 [.const (.agg #[.int .i64 t.wells, .slice Aw t.nw cw, .slice Af t.nf cf]), .const (.agg #[.int .i64 t.wells, .slice Aw t.nw cw, .slice Af t.nf cf]), .const (.int .i64 p), .const (.bool true), .const (.bool true), .const ((.agg #[.int .i64 t.wells, .slice Aw t.nw cw, .slice Af t.nf cf])), .const ((.int .i64 q)), .const (.bool true), .const (.bool true), .const (.bool true), .const ((.int .i64 law)), .const (.bool true), .const (.bool true), .const (.tuple #[.pointer none, .int .i64 er]), .const (.tuple #[.pointer none, .int .i64 er]), .const (.pointer none), .const (.int .i64 er), .held ptrS (ptrR w.heap.size)] (by kernel_rfl) (by kernel_rfl) rfl ⟨trivial, trivial, trivial, trivial, trivial, trivial, trivial, trivial, trivial, trivial, trivial, trivial, trivial, trivial, trivial, trivial, trivial, ptrG _, trivial⟩ (crossAll_no _ _ _ _ trivial) rfl rfl rfl (fun _ => ⟨_, _, _, _, rfl, rfl, rfl, rfl⟩) ?_
    iterate 3 refine wpStir_const (by go_simp) ?_
    refine wpStir_call rfl (fun w' hb hd => ?_) ?_
    · clear hd
      go_simp
      refine (HC1.out w').mono ?_
      rintro e w'' ⟨rfl, hb'⟩
      exact ⟨rfl, hb'⟩
    iterate 3 refine wpStir_const (by go_simp) ?_
    refine wpStir_gcall (by kernel_rfl) (fun w' hb hd => ?_) ?_
    · clear hd
      go_simp
      refine (HC2.out w').mono ?_
      rintro e w'' ⟨rfl, hb'⟩
      exact ⟨rfl, hb'⟩
    iterate 3 refine wpStir_const (by go_simp) ?_
    refine wpStir_gcall (by kernel_rfl) (fun w' hb hd => ?_) ?_
    · clear hd
      go_simp
      refine (HC3.out w').mono ?_
      rintro e w'' ⟨rfl, hb'⟩
      exact ⟨rfl, hb'⟩
    refine wpStir_const (by go_simp) ?_
    refine wpStir_call rfl (fun w' hb hd => ?_) ?_
    · clear hd
      go_simp
      refine (HCO.out w' hb).mono ?_
      rintro e w'' ⟨rfl, hb'⟩
      exact ⟨rfl, hb'⟩
    iterate 3 refine wpStir_const (by go_simp) ?_
    refine wpStir_held rfl (fun w' hb hd => ?_) (fun v hv => ?_)
    · clear hd
      go_simp
      exact ⟨bAlloc (Below.refl _ _) _, ⟨_, rfl⟩, ptrR_new (Nat.le_trans HB.out.size hb.size)⟩
    obtain ⟨b, rfl⟩ := hv
    refine wpStir_end (fun w5 hb5 hd => ?_)
    have hp := (hd.1 b rfl).2
    have hpb := (hd.1 b rfl).1
    have hpc : w5.cell? ⟨b, 0, none⟩ = some (.pointer none) := by simp [World.cell?, hp]
    have hpf : w5.frozen? ⟨b, 0, none⟩ = false := by simp [World.frozen?, hp]
    have HBS := Lib.hid (Below.setCell (p := ⟨b, 0, none⟩) (bTrans HB.out hb5) hpb (.pointer none))
    clear hp hb5
    clear hd
    simp only [List.drop_succ_cons, List.drop_zero]
    simp only [Act.put, List.setIfInBounds_toArray, List.set_cons_succ, List.set_cons_zero]
    refine ⟨w5.setCell ⟨b, 0, none⟩ (.pointer none), by go_simp, ?_⟩
    gi_wp2
    refine bodyPost_ret (by simp [results, Tryd.results60]; rfl) rfl ?_
    exact ⟨rfl, HBS.out⟩
end Go.Proofs.YtchhodikgllgnaaDoor
/- The fewest tests, the next test, the tests that decide: laws for the statements of quarrels. Plain Lean. No condition but what is said. -/
namespace Go.Proofs.YtchhodikgllgnaaDoor
open Go.RowKit Go.Sort
/-! ### Tests in order -/
def lexLt (x y : Tp) : Prop := x.1 < y.1 ∨ (x.1 = y.1 ∧ x.2 < y.2)
theorem lexLt_ne {x y : Tp} (h : lexLt x y) : x ≠ y := by
  rintro rfl
  rcases h with h | ⟨_, h⟩ <;> exact absurd h (Nat.lt_irrefl _)
theorem range_pair (n : Nat) : (List.range n).Pairwise (· < ·) := by
  induction n with
  | zero => simp
  | succ n ih =>
    rw [List.range_succ, List.pairwise_append]
    exact ⟨ih, by simp, fun a ha b hb => by simp at ha hb; omega⟩
theorem testsL_pair (m : Nat) : (testsL m).Pairwise lexLt := by
  have key : ∀ k, ((List.range k).flatMap fun p => (List.range m).map fun q => (p, q)).Pairwise lexLt := fun k => by
    induction k with
    | zero => simp
    | succ k ih =>
      rw [List.range_succ, List.flatMap_append, List.pairwise_append]
      refine ⟨ih, ?_, fun a ha b hb => ?_⟩
      · simp only [List.flatMap_cons, List.flatMap_nil, List.append_nil]
        rw [List.pairwise_map]
        exact (range_pair m).imp fun h => .inr ⟨rfl, h⟩
      · simp only [List.flatMap_cons, List.flatMap_nil, List.append_nil, List.mem_map] at hb
        obtain ⟨q, _, rfl⟩ := hb
        obtain ⟨p, hp, ha⟩ := List.mem_flatMap.1 ha
        obtain ⟨q', _, rfl⟩ := List.mem_map.1 ha
        exact .inl (by simpa using hp)
  exact key m
theorem tests_pair (t : Qt) : t.tests.Pairwise lexLt := testsL_pair _
theorem pair_nodup {l : List Tp} (h : l.Pairwise lexLt) : l.Nodup := h.imp fun h => lexLt_ne h
theorem nodup_len {s : List Tp} : ∀ {l : List Tp}, s.Nodup → (∀ x, x ∈ s → x ∈ l) → s.length ≤ l.length := by
  induction s with
  | nil => exact fun _ _ => Nat.zero_le _
  | cons x s ih =>
    intro l hn hs
    rw [List.nodup_cons] at hn
    have hx := hs x (by simp)
    have h1 := ih (l := l.erase x) hn.2 fun y hy => (List.mem_erase_of_ne fun e => hn.1 (by rw [← e]; exact hy)).2 (hs y (by simp [hy]))
    rw [List.length_erase_of_mem hx] at h1
    have h2 := List.length_pos_of_mem hx
    simp only [List.length_cons]
    omega
/-- tests of a town, in order -/
theorem sub_tests {t : Qt} {l : List Tp} (h : List.Sublist l t.tests) : (∀ x, x ∈ l → x ∈ t.tests) ∧ l.length ≤ t.wells.toNat * t.wells.toNat ∧ l.Pairwise lexLt :=
  ⟨fun x hx => h.subset hx, by have := h.length_le; unfold Qt.tests at this; rw [testsL_len] at this; exact this, (tests_pair t).sublist h⟩
/-! ### The fewest tests -/
theorem fewest_sub (t : Qt) (L : List Int) : List.Sublist (t.fewest L) t.tests := (fewest_spec t.tests (fun l => t.allApart l L) (allApart_tests t L)).1
theorem fewest_all (t : Qt) (L : List Int) : t.allApart (t.fewest L) L = true := (fewest_spec t.tests (fun l => t.allApart l L) (allApart_tests t L)).2.1
theorem allApart_sub {t : Qt} {l l' : List Tp} {L : List Int} (h : ∀ x, x ∈ l → x ∈ l') (ha : t.allApart l L = true) : t.allApart l' L = true :=
  allApart_iff.2 fun a h1 b h2 hs => someB_sub h (allApart_iff.1 ha a h1 b h2 hs)
theorem fewest_min {t : Qt} {L : List Int} {l : List Tp} (hl : ∀ x, x ∈ l → x ∈ t.tests) (ha : t.allApart l L = true) : (t.fewest L).length ≤ l.length := by
  have h1 := (fewest_spec t.tests (fun l => t.allApart l L) (allApart_tests t L)).2.2 (t.tests.filter fun x => decide (x ∈ l)) List.filter_sublist (allApart_sub (fun x hx => List.mem_filter.2 ⟨hl x hx, by simpa using hx⟩) ha)
  have h2 := nodup_len (s := t.tests.filter fun x => decide (x ∈ l)) (l := l) ((pair_nodup (tests_pair t)).sublist List.filter_sublist) fun x hx => by simpa using (List.mem_filter.1 hx).2
  exact Nat.le_trans h1 h2
theorem fewest_tight {t : Qt} {L : List Int} {i : Nat} (hi : i < (t.fewest L).length) : t.allApart ((t.fewest L).take i ++ (t.fewest L).drop (i + 1)) L = false := by
  cases h : t.allApart ((t.fewest L).take i ++ (t.fewest L).drop (i + 1)) L with
  | false => rfl
  | true =>
    have h1 := fewest_min (fun x hx => by
      rcases List.mem_append.1 hx with hx | hx
      · exact (fewest_sub t L).subset (List.mem_of_mem_take hx)
      · exact (fewest_sub t L).subset (List.mem_of_mem_drop hx)) h
    simp at h1
    omega
/-! ### The next test -/
theorem nextP_eq {t : Qt} {L : List Int} (hf : t.Falls L) (hl : L.length ≤ 100) : t.nextP L = t.next L := by
  unfold Qt.nextP Qt.next
  split
  · rename_i h0
    have hal : t.allApart [] L = false := by
      cases hal : t.allApart [] L with
      | false => rfl
      | true => rw [depth_step, hal] at h0; simp at h0
    have hne : L ≠ [] := by
      rintro rfl
      rw [allApart_short (by simp)] at hal
      cases hal
    have hlt := depth_below t hne
    refine find_congr fun x hx => ?_
    have hle : t.depth L ≤ 1 + t.behind x L := by
      rw [depth_step, hal, if_neg (by decide)]
      exact minF_le.2 (.inr ⟨x, hx, Int.le_refl _⟩)
    by_cases hs : ∃ a, a ∈ L ∧ ∃ b, b ∈ L ∧ t.F a x ≠ t.F b x
    · obtain ⟨a, ha, b, hb, hab⟩ := hs
      have h1 := (behind_split (fun L'' _ h2 => depth_below t h2) ha hb hab).1
      have h2 : t.afterP x L = t.behind x L := by
        rw [h1]
        unfold Qt.afterP
        rw [anyB_false.2 fun f _ => ?_]
        · rfl
        · cases he : t.shown x L f == L with
          | false => rfl
          | true =>
            have := eq_of_beq he
            exact absurd (shown_one (by rw [this]) ha hb) hab
      rw [h2]
      refine Bool.eq_iff_iff.2 ?_
      simp only [beq_iff_eq, decide_eq_true_eq]
      omega
    · have h' : ∀ a, a ∈ L → ∀ b, b ∈ L → t.F a x = t.F b x := fun a ha b hb => Classical.byContradiction fun hne => hs ⟨a, ha, b, hb, hne⟩
      obtain ⟨h1, f, hf1, hf2⟩ := behind_none hf hx hne h'
      have h2 : t.afterP x L = 1024 := by
        unfold Qt.afterP
        rw [if_pos (anyB_true.2 ⟨f, hf1, by rw [hf2]; simp⟩)]
      rw [h1, h2]
      refine Bool.eq_iff_iff.2 ?_
      simp only [beq_iff_eq, decide_eq_true_eq]
      omega
  · rfl
theorem depth_zero {t : Qt} {L : List Int} : t.depth L = 0 ↔ t.allApart [] L = true := by
  constructor
  · intro h
    cases hal : t.allApart [] L with
    | true => rfl
    | false =>
      have hne : L ≠ [] := by
        rintro rfl
        rw [allApart_short (by simp)] at hal
        cases hal
      have hst := depth_step t L
      rw [hal, if_neg (by decide)] at hst
      rcases minF_le.1 (Int.le_of_eq hst.symm) with h3 | ⟨x, hx, h3⟩
      · have := List.length_pos_iff.2 hne
        omega
      · have := behind_nonneg t x L
        omega
  · intro h
    rw [depth_step, h]
    rfl
theorem next_zero {t : Qt} {L : List Int} : (t.next L).isSome = decide (0 < t.depth L) := by
  cases h : t.next L with
  | none => rw [next_none h]; rfl
  | some x =>
    obtain ⟨_, h2, _⟩ := next_some h
    have := behind_nonneg t x L
    simp
    omega
/-- behind the next test: at the worst one less -/
theorem next_behind {t : Qt} {L : List Int} (hf : t.Falls L) {x : Tp} (h : t.next L = some x) : maxTo (fun f : Nat => t.depth (t.shown x L f)) 10 = t.depth L - 1 := by
  obtain ⟨h1, h2, h3⟩ := next_some h
  have hne : L ≠ [] := by
    rintro rfl
    rw [allApart_short (by simp)] at h3
    cases h3
  have hlt := depth_below t hne
  by_cases hs : ∃ a, a ∈ L ∧ ∃ b, b ∈ L ∧ t.F a x ≠ t.F b x
  · obtain ⟨a, ha, b, hb, hab⟩ := hs
    rw [← (behind_split (fun L'' _ h2 => depth_below t h2) ha hb hab).1]
    omega
  · have h' : ∀ a, a ∈ L → ∀ b, b ∈ L → t.F a x = t.F b x := fun a ha b hb => Classical.byContradiction fun hne => hs ⟨a, ha, b, hb, hne⟩
    have := (behind_none hf h1 hne h').1
    omega
/-! ### The tests that decide -/
theorem others_sub (t : Qt) (x : Tp) : List.Sublist (t.others x) t.tests := List.filter_sublist
theorem fewestL_sub (l : List Tp) (p : List Tp → Bool) : List.Sublist (fewestL l p) l := by
  unfold fewestL
  cases hf : firstUpTo l p 0 l.length with
  | some x => exact ((firstUpTo_spec l p l.length 0).1 x hf).1
  | none => exact List.Sublist.refl _
theorem decides_sub {t : Qt} {l l' : List Tp} {L : List Int} {x : Tp} {law : Int} (h : ∀ y, y ∈ l → y ∈ l') (ha : t.decides l L x law = true) : t.decides l' L x law = true :=
  decides_iff.2 fun a h1 b h2 h3 h4 => someB_sub h (decides_iff.1 ha a h1 b h2 h3 h4)
theorem decides_nil {t : Qt} {L : List Int} {x : Tp} {law : Int} : t.decides [] L x law = true ↔ ∀ a, a ∈ L → ∀ b, b ∈ L → (law < t.F a x ↔ law < t.F b x) := by
  rw [decides_iff]
  constructor
  · intro h a ha b hb
    have key : ∀ a, a ∈ L → ∀ b, b ∈ L → law < t.F a x → law < t.F b x := fun a ha b hb h1 => Classical.byContradiction fun h2 => by
      have := h a ha b hb h1 (by omega)
      simp [Qt.someB] at this
    exact ⟨key a ha b hb, key b hb a ha⟩
  · intro h a ha b hb h1 h2
    have := (h a ha b hb).1 h1
    omega
theorem fewestL_nil {l : List Tp} {p : List Tp → Bool} (h1 : p l = true) : fewestL l p = [] ↔ p [] = true := by
  constructor
  · intro h
    have := (fewest_spec l p h1).2.1
    rwa [h] at this
  · exact fewest_nil l p
/-- what is harmed is known just if no tests are needed -/
theorem harmK_nil {t : Qt} {L : List Int} {x : Tp} {law : Int} (hne : L ≠ []) : harmK (spanOf (fun a => t.F a x) L) law ≠ 3 ↔ t.decides [] L x law = true := by
  rw [decides_nil]
  unfold harmK
  by_cases h1 : law < (spanOf (fun a => t.F a x) L).1
  · rw [if_pos h1]
    refine ⟨fun _ a ha b hb => ?_, fun _ => by decide⟩
    have e1 := (spanOf_in (f := fun a => t.F a x) ha).1
    have e2 := (spanOf_in (f := fun a => t.F a x) hb).1
    omega
  · rw [if_neg h1]
    by_cases h2 : (spanOf (fun a => t.F a x) L).2 ≤ law
    · rw [if_pos h2]
      refine ⟨fun _ a ha b hb => ?_, fun _ => by decide⟩
      have e1 := (spanOf_in (f := fun a => t.F a x) ha).2
      have e2 := (spanOf_in (f := fun a => t.F a x) hb).2
      omega
    · rw [if_neg h2]
      refine ⟨fun h => absurd rfl h, fun h => ?_⟩
      exfalso
      obtain ⟨a, ha⟩ := List.exists_mem_of_ne_nil L hne
      by_cases h3 : law < t.F a x
      · exact h1 (by
          have := (spanOf_ge (f := fun a => t.F a x) (v := law + 1) hne).2 fun b hb => by
            have := (h a ha b hb).1 h3
            show law + 1 ≤ t.F b x
            omega
          omega)
      · exact h2 ((spanOf_le hne).2 fun b hb => by
          have := (h a ha b hb).2
          show t.F b x ≤ law
          omega)
/-- what is surely so is so in each world -/
theorem harmK_side {t : Qt} {L : List Int} {x : Tp} {law : Int} {a : Int} (ha : a ∈ L) (hk : harmK (spanOf (fun a => t.F a x) L) law ≠ 3) : (harmK (spanOf (fun a => t.F a x) L) law = 1 ↔ law < t.F a x) ∧ (harmK (spanOf (fun a => t.F a x) L) law = 2 ↔ t.F a x ≤ law) := by
  have e : (spanOf (fun a => t.F a x) L).1 ≤ t.F a x ∧ t.F a x ≤ (spanOf (fun a => t.F a x) L).2 := spanOf_in (f := fun a => t.F a x) ha
  generalize spanOf (fun a => t.F a x) L = S at *
  generalize t.F a x = v at *
  unfold harmK at hk ⊢
  by_cases h1 : law < S.1
  · rw [if_pos h1]
    exact ⟨⟨fun _ => by omega, fun _ => rfl⟩, ⟨(fun h => by cases h), fun h => by omega⟩⟩
  · rw [if_neg h1] at hk ⊢
    by_cases h2 : S.2 ≤ law
    · rw [if_pos h2]
      exact ⟨⟨(fun h => by cases h), fun h => by omega⟩, ⟨fun _ => by omega, fun _ => rfl⟩⟩
    · rw [if_neg h2] at hk
      exact absurd rfl hk
/-- with what some tests show in a world, as facts -/
def Qt.addAll (t : Qt) (a : Int) (l : List Tp) : Qt := l.foldl (fun s x => s.add (shownF x (t.F a x))) t
theorem addAll_same (t : Qt) (a : Int) : ∀ (l : List Tp) (s : Qt), (l.foldl (fun s x => s.add (shownF x (t.F a x))) s).wells = s.wells ∧ (l.foldl (fun s x => s.add (shownF x (t.F a x))) s).world = s.world ∧ (l.foldl (fun s x => s.add (shownF x (t.F a x))) s).nw = s.nw ∧ (l.foldl (fun s x => s.add (shownF x (t.F a x))) s).nf = s.nf + l.length
  | [], s => ⟨rfl, rfl, rfl, rfl⟩
  | x :: l, s => by
    obtain ⟨h1, h2, h3, h4⟩ := addAll_same t a l (s.add (shownF x (t.F a x)))
    exact ⟨h1, h2, h3, by
      simp only [List.foldl_cons, List.length_cons]
      rw [h4]
      show s.nf + 1 + l.length = _
      omega⟩
theorem F_same {t t' : Qt} (h : t.world = t'.world) (a : Int) (x : Tp) : t.F a x = t'.F a x := by unfold Qt.F; rw [h]
theorem addAll_left (t : Qt) (a : Int) : ∀ (l : List Tp) (s : Qt), s.world = t.world → (l.foldl (fun s x => s.add (shownF x (t.F a x))) s).leftL = s.leftL.filter fun b => l.all fun x => t.F b x == t.F a x
  | [], s, _ => by
    show s.leftL = s.leftL.filter fun b => [].all fun x => t.F b x == t.F a x
    exact (List.filter_eq_self.2 fun _ _ => rfl).symm
  | x :: l, s, h => by
    rw [List.foldl_cons, addAll_left t a l (s.add (shownF x (t.F a x))) h, leftL_shown]
    unfold Qt.shown
    rw [List.filter_filter]
    congr 1
    funext b
    rw [F_same h, List.all_cons, Bool.and_comm]
/-- the tests of Decide leave but worlds of one side -/
theorem decide_side {t : Qt} {x : Tp} {law : Int} {l : List Tp} {a : Int} (ha : a ∈ t.leftL) (hd : t.decides l t.leftL x law = true) : a ∈ (t.addAll a l).leftL ∧ harmK (spanOf (fun b => t.F b x) (t.addAll a l).leftL) law ≠ 3 := by
  have hl : (t.addAll a l).leftL = t.leftL.filter fun b => l.all fun x => t.F b x == t.F a x := addAll_left t a l t rfl
  have hm : a ∈ (t.addAll a l).leftL := by
    rw [hl]
    exact List.mem_filter.2 ⟨ha, by simp⟩
  refine ⟨hm, (harmK_nil (List.ne_nil_of_mem hm)).2 (decides_nil.2 fun b hb c hc => ?_)⟩
  rw [hl] at hb hc
  obtain ⟨b1, b2⟩ := List.mem_filter.1 hb
  obtain ⟨c1, c2⟩ := List.mem_filter.1 hc
  have hno : ∀ {b c}, b ∈ t.leftL → c ∈ t.leftL → (l.all fun x => t.F b x == t.F a x) = true → (l.all fun x => t.F c x == t.F a x) = true → law < t.F b x → law < t.F c x := fun {b c} h1 h2 h3 h4 h5 => Classical.byContradiction fun h6 => by
    obtain ⟨y, hy, hn⟩ := someB_iff.1 (decides_iff.1 hd b h1 c h2 h5 (by omega))
    have e1 := List.all_eq_true.1 h3 y hy
    have e2 := List.all_eq_true.1 h4 y hy
    rw [beq_iff_eq] at e1 e2
    exact hn (by rw [e1, e2])
  exact ⟨hno b1 c1 b2 c2, hno c1 b1 c2 b2⟩
end Go.Proofs.YtchhodikgllgnaaDoor
/- Draws together, none, and twice: laws for the statements of quarrels. Plain Lean. No condition but what is said. -/
namespace Go.Proofs.YtchhodikgllgnaaDoor
open Go.RowKit Go.Sort
/-! ### Who is blamed -/
end Go.Proofs.YtchhodikgllgnaaDoor
/- Walks of the reference 05: Told, ShownAs. Conditions: what is read fits into memory. -/
namespace Go.Proofs.YtchhodikgllgnaaDoor
open Go.RowKit Go.Sort
theorem factL_snoc (t : Qt) (f : Fact) : factL (t.add f).fact (t.nf + 1) = factL t.fact t.nf ++ [.int .i64 f.from_, .int .i64 f.many, .int .i64 f.to_, .int .i64 f.low, .int .i64 f.high] := by
  unfold factL
  show catL _ t.nf ++ _ = _
  have e1 : (t.add f).fact t.nf = f := if_neg (Nat.lt_irrefl _)
  congr 1
  · exact catL_congr t.nf fun i hi => by rw [show (t.add f).fact i = t.fact i from if_pos hi]
  · simp only [e1]
theorem owns_kept {l : List TypeId} {w w' : World} {base : Nat} {e : TypeId} {size n : Nat} {v : Value} {xs : List Value} (h : w.ownsRow base e size v n xs) (hk : Kept l w w') (he : e ∈ l) : w'.ownsRow base e size v n xs :=
  ⟨h.1, h.2.imp id fun ⟨g, cap, cur, h1, h2, h3, h4⟩ => ⟨g, cap, cur, h1, h2, (hk.2 g _ _ _ h3 he).trans h3, h4⟩⟩
set_option maxHeartbeats 4000000 in
set_option maxRecDepth 100000 in
theorem told5_any (Aw Af : Option Addr) (cw cf : Nat) (t : Qt) (f : Fact) (w : World) (hf : t.Fits) (hT : QAt w Aw Af t) :
    Calls Tryd.prog 36 #[.agg #[.int .i64 t.wells, .slice Aw t.nw cw, .slice Af t.nf cf], .agg #[.int .i64 f.from_, .int .i64 f.many, .int .i64 f.to_, .int .i64 f.low, .int .i64 f.high]] w fun e w' => CopyOut w' w.heap.size (t.add f) e ∧ Below w.heap.size w w' := by
  have hb2 := bAlloc (bAlloc (bAlloc (Below.refl w.heap.size w) (.cells #[.int .i64 t.wells, .slice Aw t.nw cw, .slice Af t.nf cf] 25)) (.cells #[.int .i64 f.from_, .int .i64 f.many, .int .i64 f.to_, .int .i64 f.low, .int .i64 f.high] 53)) (.cells #[.int .i64 0, .slice none 0 0, .slice none 0 0] 25)
  have HT := Lib.hid (hT.mono hb2)
  have HB := Lib.hid hb2
  have HF := Lib.hid hf
  have HTR := Lib.hid (TBox.new ((w.alloc (.cells #[.int .i64 t.wells, .slice Aw t.nw cw, .slice Af t.nf cf] 25)).alloc (.cells #[.int .i64 f.from_, .int .i64 f.many, .int .i64 f.to_, .int .i64 f.low, .int .i64 f.high] 53)) #[.int .i64 0, .slice none 0 0, .slice none 0 0] 25)
  clear hT hb2 hf
  obtain ⟨i0, hi, iz0, iz1, iz2⟩ := info_parts infoFact
  go_enter Tryd.func36, Tryd.ntmps36
  go_wp2_with fail
  refine (copy5_any _ _ _ _ t _ HF.out HT.out).mono ?_
  rintro e w1 ⟨⟨vW, vF, rfl, hc⟩, hb1⟩
  obtain ⟨A1, c1, A2, c2, rfl, rfl, _⟩ := hc.qat
  have HC := Lib.hid hc
  have HB1 := Lib.hid hb1
  obtain ⟨bc1, bf1⟩ := bcell hb1
  have hz1 := hb1.size
  simp only [World.size_alloc] at hz1
  have hy1 : w.heap.size < w1.heap.size := by omega
  have hy2 : w.heap.size + 1 < w1.heap.size := by omega
  have hy3 : w.heap.size + 1 + 1 < w1.heap.size := by omega
  have HX1 := Lib.hid (TBox.new w1 #[.int .i64 t.wells, .slice A1 t.nw c1, .slice A2 t.nf c2] 25)
  have HN := Lib.hid (show (t.nf + 1) * 40 ≤ 140737488355328 by have := HF.out.2.1; omega)
  have hbase := HB1.out.size
  simp only [World.size_alloc] at hbase
  clear hc hb1
  have HO2 := Lib.hid (show ((w1.alloc (.cells #[.int .i64 t.wells, .slice A1 t.nw c1, .slice A2 t.nf c2] 25)).alloc (.cells #[.int .i64 f.from_, .int .i64 f.many, .int .i64 f.to_, .int .i64 f.low, .int .i64 f.high] 53)).ownsRow (w.heap.size + 1 + 1 + 1) 53 5 (.slice A2 t.nf c2) t.nf (factL t.fact t.nf) by
    have := (HC.out.facts.alloc (.cells #[.int .i64 t.wells, .slice A1 t.nw c1, .slice A2 t.nf c2] 25)).alloc (.cells #[.int .i64 f.from_, .int .i64 f.many, .int .i64 f.to_, .int .i64 f.low, .int .i64 f.high] 53)
    simpa using this)
  have HB2 := Lib.hid (show Below (w.heap.size + 1 + 1 + 1) (((w.alloc (.cells #[.int .i64 t.wells, .slice Aw t.nw cw, .slice Af t.nf cf] 25)).alloc (.cells #[.int .i64 f.from_, .int .i64 f.many, .int .i64 f.to_, .int .i64 f.low, .int .i64 f.high] 53)).alloc (.cells #[.int .i64 0, .slice none 0 0, .slice none 0 0] 25)) ((w1.alloc (.cells #[.int .i64 t.wells, .slice A1 t.nw c1, .slice A2 t.nf c2] 25)).alloc (.cells #[.int .i64 f.from_, .int .i64 f.many, .int .i64 f.to_, .int .i64 f.low, .int .i64 f.high] 53)) by
    have := bAlloc (bAlloc HB1.out (.cells #[.int .i64 t.wells, .slice A1 t.nw c1, .slice A2 t.nf c2] 25)) (.cells #[.int .i64 f.from_, .int .i64 f.many, .int .i64 f.to_, .int .i64 f.low, .int .i64 f.high] 53)
    simpa using this)
  go_wp2_with (at_builtin; refine wpList_append_own _ rfl (Operand.tmp 9) (Operand.tmp 11) 23 rfl (w.heap.size + 1 + 1 + 1) 53 i0 (.agg #[.int .i64 0, .int .i64 0, .int .i64 0, .int .i64 0, .int .i64 0]) 5 40 Tryd.underlying23 hi iz0 iz1 iz2 rfl (by decide) _ t.nf (factL t.fact t.nf) rfl HO2.out ⟨w1.heap.size + 1, 0, none⟩ 1 1 [.int .i64 f.from_, .int .i64 f.many, .int .i64 f.to_, .int .i64 f.low, .int .i64 f.high] rfl rfl ?c1 ?c2 ?c3 HN.out ?c4 ?_)
  case c1 =>
    intro j u hj
    have hc := cell_of_row _ (w1.heap.size + 1) j _ _ _ (show ((w1.alloc (.cells #[.int .i64 t.wells, .slice A1 t.nw c1, .slice A2 t.nf c2] 25)).alloc (.cells #[.int .i64 f.from_, .int .i64 f.many, .int .i64 f.to_, .int .i64 f.low, .int .i64 f.high] 53)).heap[w1.heap.size + 1]? = some (Obj.cells #[.int .i64 f.from_, .int .i64 f.many, .int .i64 f.to_, .int .i64 f.low, .int .i64 f.high] 53 (0, 0)) by have := heap_alloc_new (w1.alloc (.cells #[.int .i64 t.wells, .slice A1 t.nw c1, .slice A2 t.nf c2] 25)) (.cells #[.int .i64 f.from_, .int .i64 f.many, .int .i64 f.to_, .int .i64 f.low, .int .i64 f.high] 53); simpa using this)
    rw [show (⟨w1.heap.size + 1, 0, none⟩ : Addr).add j = ⟨w1.heap.size + 1, j, none⟩ from by unfold Addr.add; split <;> simp_all, hc]
    simpa using hj
  case c2 =>
    intro u hu
    simp only [List.mem_cons, List.not_mem_nil, or_false] at hu
    rcases hu with rfl | rfl | rfl | rfl | rfl <;> rfl
  case c3 => unfold maxLen; have := HN.out; omega
  case c4 => simp <;> omega
  intro v' w4 hown4 hg4 _
  obtain ⟨A4, c4, rfl, _⟩ := RowK.own hown4
  have hnb : some w1.heap.size ≠ (Value.slice A2 t.nf c2).ownBlock := fun e => by have := HC.out.facts.lt _ e.symm; omega
  have HX4 := Lib.hid ((HX1.out.mono (bAlloc (Below.refl _ _) (.cells #[.int .i64 f.from_, .int .i64 f.many, .int .i64 f.to_, .int .i64 f.low, .int .i64 f.high] 53))).grown hg4 hnb)
  have hB4 : Below (w.heap.size + 1 + 1 + 1) (((w.alloc (.cells #[.int .i64 t.wells, .slice Aw t.nw cw, .slice Af t.nf cf] 25)).alloc (.cells #[.int .i64 f.from_, .int .i64 f.many, .int .i64 f.to_, .int .i64 f.low, .int .i64 f.high] 53)).alloc (.cells #[.int .i64 0, .slice none 0 0, .slice none 0 0] 25)) w4 := HB2.out.grown hg4 (by simp <;> omega) (fun k hk => (HO2.out.lt k hk).1)
  have HB4 := Lib.hid hB4
  have hTR : TBox w4 (w.heap.size + 1 + 1) 25 #[.int .i64 0, .slice none 0 0, .slice none 0 0] := (hB4.block (w.heap.size + 1 + 1) (by omega)).trans (by have := HTR.out; simpa [TBox] using this)
  have HTR4 := Lib.hid hTR
  have hk4 : Kept [3, 40, 81] ((w1.alloc (.cells #[.int .i64 t.wells, .slice A1 t.nw c1, .slice A2 t.nf c2] 25)).alloc (.cells #[.int .i64 f.from_, .int .i64 f.many, .int .i64 f.to_, .int .i64 f.low, .int .i64 f.high] 53)) w4 := Kept.of_own hg4 HO2.out (by decide)
  have HK4 := Lib.hid hk4
  have HG4 := Lib.hid hg4
  have HO4 := Lib.hid hown4
  have hlt4 : w1.heap.size < w4.heap.size := HX4.out.lt
  have r0 : w4.cell? ⟨w1.heap.size, 0, none⟩ = some (.int .i64 t.wells) := HX4.out.cell 0
  have r1 : w4.cell? ⟨w1.heap.size, 1, none⟩ = some (.slice A1 t.nw c1) := HX4.out.cell 1
  have r2 : w4.cell? ⟨w1.heap.size, 2, none⟩ = some (.slice A2 t.nf c2) := HX4.out.cell 2
  have r3 := HX4.out.frozen 2
  have s0 : w4.cell? ⟨w.heap.size + 1 + 1, 0, none⟩ = some (.int .i64 0) := hTR.cell 0
  have s1 : w4.cell? ⟨w.heap.size + 1 + 1, 1, none⟩ = some (.slice none 0 0) := hTR.cell 1
  have s2 : w4.cell? ⟨w.heap.size + 1 + 1, 2, none⟩ = some (.slice none 0 0) := hTR.cell 2
  have t0 := hTR.frozen 0
  have t1 := hTR.frozen 1
  have t2 := hTR.frozen 2
  have hy4 : w.heap.size + 1 + 1 < w4.heap.size := hTR.lt
  clear hTR hown4 hg4 hnb hB4 hk4 bc1 bf1
  go_wp2_with fail
  have hne : w1.heap.size ≠ w.heap.size + 1 + 1 := by omega
  have R5 := HTR4.out.other hne 2 (.slice A4 (t.nf + 1) c4)
  have R6 := R5.set 0 (.int .i64 t.wells)
  have R7 := R6.set 1 (.slice A1 t.nw c1)
  have hkS := (((Kept.set (l := [3, 40, 81]) HX4.out (by decide) 2 (.slice A4 (t.nf + 1) c4)).trans (Kept.set R5 (by decide) 0 (.int .i64 t.wells))).trans (Kept.set R6 (by decide) 1 (.slice A1 t.nw c1))).trans (Kept.set R7 (by decide) 2 (.slice A4 (t.nf + 1) c4))
  obtain ⟨us, hu1, hu2⟩ := HC.out.worlds
  have hk0 : Kept [3, 40, 81] w1 _ := ((Kept.of_below (bAlloc (bAlloc (Below.refl w1.heap.size w1) (.cells #[.int .i64 t.wells, .slice A1 t.nw c1, .slice A2 t.nf c2] 25)) (.cells #[.int .i64 f.from_, .int .i64 f.many, .int .i64 f.to_, .int .i64 f.low, .int .i64 f.high] 53))).trans HK4.out).trans hkS
  refine bodyPost_ret (v := .agg #[.int .i64 t.wells, .slice A1 t.nw c1, .slice A4 (t.nf + 1) c4]) (by simp [results, Tryd.results36, go_sem, *]) rfl ⟨⟨_, _, rfl, ⟨us, ?_, hu2.kept hk0 (by simp) (by simp)⟩, ?_⟩, ?_⟩
  · exact owns_lower (owns_kept hu1 hk0 (by simp)) (by simp <;> omega)
  · show World.ownsRow _ w.heap.size 53 5 (.slice A4 (t.nf + 1) c4) (t.nf + 1) (factL (t.add f).fact (t.nf + 1))
    rw [factL_snoc]
    exact owns_lower (owns_setT (owns_setT (owns_setT (owns_setT HO4.out HX4.out (by decide) 2 _) R5 (by decide) 0 _) R6 (by decide) 1 _) R7 (by decide) 2 _) (by omega)
  · have h0 : Below w.heap.size w w4 := bTrans HB.out (by have := HB4.out; simpa using this)
    exact Below.setCell (p := ⟨w.heap.size + 1 + 1, 2, none⟩) (Below.setCell (p := ⟨w.heap.size + 1 + 1, 1, none⟩) (Below.setCell (p := ⟨w.heap.size + 1 + 1, 0, none⟩) (Below.setCell (p := ⟨w1.heap.size, 2, none⟩) h0 (by show w.heap.size ≤ w1.heap.size; omega) _) (by show w.heap.size ≤ w.heap.size + 1 + 1; omega) _) (by show w.heap.size ≤ w.heap.size + 1 + 1; omega) _) (by show w.heap.size ≤ w.heap.size + 1 + 1; omega) _
theorem shownAs5_any (p q : Nat) (f : Int) (w : World) :
    Calls Tryd.prog 48 #[.agg #[.int .i64 p, .int .i64 q], .int .i64 f] w fun e w' => e = .returned (.agg #[.int .i64 p, .int .i64 1, .int .i64 q, .int .i64 f, .int .i64 f]) ∧ Below w.heap.size w w' := by
  go_enter Tryd.func48, Tryd.ntmps48
  go_wp2_with fail
  refine bodyPost_ret (v := .agg #[.int .i64 p, .int .i64 1, .int .i64 q, .int .i64 f, .int .i64 f]) (by simp [results, Tryd.results48, go_sem, *]) rfl ⟨rfl, ?_⟩
  exact bAlloc (bAlloc (Below.refl _ _) _) _
end Go.Proofs.YtchhodikgllgnaaDoor
