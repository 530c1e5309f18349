/- Parts joined: what all claims of this seat need. -/
import Derived.Test.YthnojgdckkdcgaaDoorNCF
import Derived.Test.YthnojgdckkdcgaaDoorNCE
set_option linter.unusedSimpArgs false
set_option linter.unusedVariables false
namespace Go.Proofs.YthnojgdckkdcgaaDoor
open Go.RowKit Go.Sort Go.Shelf
attribute [local go_sem] Oper.semAt_some
/-- the tests ahead of one -/
def testsTo (m p q : Nat) : List Tp := ((List.range p).flatMap fun p => (List.range m).map fun q => (p, q)) ++ (List.range q).map fun q => (p, q)
theorem testsTo_snoc (m p q : Nat) : testsTo m p (q + 1) = testsTo m p q ++ [(p, q)] := by
  unfold testsTo
  rw [List.range_succ, List.map_append, List.append_assoc]
  rfl
theorem testsTo_row (m p : Nat) : testsTo m p m = testsTo m (p + 1) 0 := by
  unfold testsTo
  rw [List.range_succ, List.flatMap_append]
  simp
theorem testsTo_all (m : Nat) : testsTo m m 0 = testsL m := by
  unfold testsTo testsL
  simp
theorem testsTo_prefix {m p : Nat} : ∀ {q : Nat}, p < m → q ≤ m → testsTo m p q <+: testsL m := by
  have key : ∀ d p, p + d = m → testsTo m p 0 <+: testsL m := by
    intro d
    induction d with
    | zero => intro p h; obtain rfl : p = m := by omega
              rw [testsTo_all]; exact List.prefix_refl _
    | succ d ih =>
      intro p h
      refine List.IsPrefix.trans ?_ (ih (p + 1) (by omega))
      rw [← testsTo_row]
      unfold testsTo
      simp
  intro q hp hq
  refine List.IsPrefix.trans ?_ (key (m - (p + 1)) (p + 1) (by omega))
  rw [← testsTo_row]
  unfold testsTo
  refine (List.prefix_append_right_inj _).2 ?_
  refine ⟨((List.range (m - q)).map (q + ·)).map (fun q => (p, q)), ?_⟩
  rw [← List.map_append]
  congr 1
  rw [← List.range_add, show q + (m - q) = m by omega]
def encT (x : Tp) : Array Value := #[.agg #[.int .i64 x.1, .int .i64 x.2]]
/-- the wells of a court are kept -/
def KpC (C : Nat) (A B : World) : Prop := B.cell? ⟨C, 0, none⟩ = A.cell? ⟨C, 0, none⟩
set_option maxHeartbeats 2000000 in
set_option maxRecDepth 100000 in
theorem tests_seq (n C m : Nat) (w : World) (hn : 1 ≤ n) (hm : m ≤ 4) (hlt : C < w.heap.size) (hc : w.cell? ⟨C, 0, none⟩ = some (.int .i64 m)) :
    SeqB Fence.wide n Tryd.prog 32 #[.pointer (some ⟨C, 0, none⟩)] encT (KpC C) (· = testsL m) (· <+: testsL m) (fun pre x => pre ++ [x] <+: testsL m) w := by
  intro l J Jx W hW hJ hJx hY h0
  have hc1 : W.cell? ⟨C, 0, none⟩ = some (.int .i64 m) := (hW.cell (p := ⟨C, 0, none⟩) hlt).trans hc
  have HY := Lib.hid hY
  clear hY hJ hJx hW hc
  refine callsIn_of_wp Tryd.func32 rfl trivial ?_ rfl
  simp only [Tryd.ntmps32, List.size_toArray, List.length_cons, List.length_nil, Nat.reduceAdd, Nat.reduceSub, Array.replicate_succ, Array.replicate_zero, List.push_toArray, List.append_toArray, List.nil_append, List.cons_append]
  gi_wp2
  gi_loopw [11] (fun i wr => ∃ p : Nat, i = .int .i64 p ∧ p ≤ m ∧ J (testsTo m p 0) wr ∧ wr.cell? ⟨C, 0, none⟩ = some (.int .i64 m)) (fun i _ => m - (intOf i).toNat)
  case atStart => exact ⟨0, rfl, Nat.zero_le _, h0, hc1⟩
  case round =>
    obtain ⟨p, rfl, hp, hJp, hcp⟩ := hrel
    have HJ := Lib.hid hJp
    clear hJp hc1 h0
    by_cases hpm : p < m
    · have p1 : (p : Int) < (m : Int) := by omega
      gi_wp2
      gi_loopw [19] (fun i wr => ∃ q : Nat, i = .int .i64 q ∧ q ≤ m ∧ J (testsTo m p q) wr ∧ wr.cell? ⟨C, 0, none⟩ = some (.int .i64 m)) (fun i _ => m - (intOf i).toNat)
      case atStart => exact ⟨0, rfl, Nat.zero_le _, HJ.out, hcp⟩
      case round =>
        obtain ⟨q, rfl, hq, hJq, hcq⟩ := hrel
        have HJ2 := Lib.hid hJq
        have HC := Lib.hid hcq
        by_cases hqm : q < m
        · have q1 : (q : Int) < (m : Int) := by omega
          obtain ⟨fn, tmps, assign, body, hy, hR⟩ := HY.out _ (p, q) _ hJq (testsTo_snoc m p q ▸ testsTo_prefix hpm (by omega))
          simp only [encT] at hy
          clear hJq hcp
          gi_wp2
          refine hR.mono ?_
          rintro e W3 (⟨rfl, hJ3, hk3⟩ | ⟨rfl, hJx3⟩)
          · have HJ3 := Lib.hid ((testsTo_snoc m p q) ▸ hJ3 : J (testsTo m p (q + 1)) W3)
            have HC3 := Lib.hid (show W3.cell? ⟨C, 0, none⟩ = some (.int .i64 m) from hk3.trans HC.out)
            clear hJ3 hk3 hy hcq
            gi_wp2
            go_roundw
            case rel =>
              first
              | exact ⟨q + 1, by go_num, by omega, HJ3.out, HC3.out⟩
              | ((repeat apply Exists.intro)
                 refine ⟨⟨q + 1, ?_, by omega, HJ3.out, HC3.out⟩, rfl⟩
                 go_num)
            case measure => simp [intOf]; omega
          · have HX := Lib.hid ((testsTo_snoc m p q) ▸ hJx3 : Jx (testsTo m p (q + 1)) W3)
            clear hJx3 hy hcq
            gi_wp2
            refine bodyPost_ret (results_none rfl _ _ _) rfl ?_
            exact ⟨⟨_, rfl⟩, .inr ⟨_, testsTo_prefix hpm (by omega), HX.out⟩⟩
        · obtain rfl : q = m := by omega
          have HJ3 := Lib.hid (testsTo_row q p ▸ HJ2.out : J (testsTo q (p + 1) 0) _)
          clear hJq hcp
          gi_wp2
          go_roundw
          case rel =>
            first
            | exact ⟨p + 1, by go_num, by omega, HJ3.out, HC.out⟩
            | ((repeat apply Exists.intro)
               refine ⟨⟨p + 1, ?_, by omega, HJ3.out, HC.out⟩, rfl⟩
               go_num)
          case measure => simp [intOf]; omega
    · obtain rfl : p = m := by omega
      have HJ3 := Lib.hid (testsTo_all p ▸ HJ.out : J (testsL p) _)
      gi_wp2
      go_end0
      exact ⟨⟨_, rfl⟩, .inl ⟨_, rfl, HJ3.out⟩⟩
end Go.Proofs.YthnojgdckkdcgaaDoor

namespace Go.Proofs.YthnojgdckkdcgaaDoor
open Go.RowKit Go.Sort Go.Shelf
section
variable {P : Program} {ops : Array Oper} {md : Region.Mode} {lp n : Nat}
theorem wpAnyIn_inv {F : Fence} {Q : Exit → Act → World → Prop} (Inv : Array Bool → Act → World → Prop)
    (hstep : ∀ listed a w i, Shut md ops listed → Inv listed a w → i ∈ Region.ready md ops listed → wpOpIn F n P ops Q i (Inv (listed.setIfInBounds i true)) a w)
    (hend : ∀ listed a w, Shut md ops listed → Inv listed a w → Region.ready md ops listed = [] → Q .normal a w) :
    ∀ (fuel : Nat) (listed : Array Bool) (a : Act) (w : World), left listed ops.size ≤ fuel → Shut md ops listed → Inv listed a w → wpAnyIn F n P md ops Q fuel listed a w
  | 0, listed, a, w, hl, hs, hI => by
    have hr : Region.ready md ops listed = [] := by
      cases hr : Region.ready md ops listed with
      | nil => rfl
      | cons i rest =>
        have hm : i ∈ Region.ready md ops listed := by rw [hr]; exact List.mem_cons_self
        have h0 := (mem_ready.1 hm).1
        have := left_pos h0 ops.size (by rw [← hs.size]; exact lt_of_unlisted h0)
        omega
    exact ⟨hr, hend _ _ _ hs hI hr⟩
  | fuel + 1, listed, a, w, hl, hs, hI => by
    refine ⟨fun hr => hend _ _ _ hs hI hr, fun i hi => ?_⟩
    have h0 := (mem_ready.1 hi).1
    have h1 := left_set h0 ops.size (by rw [← hs.size]; exact lt_of_unlisted h0)
    exact wpOpIn_mono (fun a' w' h' => wpAnyIn_inv Inv hstep hend fuel _ a' w' (by omega) (hs.set hi) h') (hstep _ _ _ _ hs hI hi)
theorem Oper.wpIn_of_calm {o : Oper} {a : Act} {w : World} {v : Value} {K : Act → World → Prop} {Q : Exit → Act → World → Prop} (hdf : ∀ c, o.op ≠ .defer c) (h : Oper.calmAt P o a w v) (hK : ∀ w', Below w.heap.size w w' → K (a.put o.dst v) w') : o.wpIn (Fence.wide.inRound lp) n P a w K Q := by
  unfold Oper.calmAt at h
  unfold Oper.wpIn
  refine ⟨fun _ _ => trivial, ?_⟩
  rw [Oper.semAt_eq _ _ _ hdf]
  generalize (execOp a.eval o).run P w = r at *
  cases r with
  | ok n' w' =>
    cases n' <;> simp only [Oper.calmUpon] at h <;> simp only [Oper.uponIn]
    case value u =>
      obtain ⟨e1, e2⟩ := h
      rw [e1, e2]
      exact hK _ (Below.refl _ _)
    case skip =>
      obtain ⟨e1, e2⟩ := h
      rw [e1, ← e2]
      exact hK _ (Below.refl _ _)
    case enter f args =>
      obtain ⟨e1, hc⟩ := h
      rw [e1]
      exact ⟨fun h => by simp [Fence.wide, Fence.inRound] at h, (CallsIn.inRound lp (callsIn_wide.2 hc)).mono fun e w'' ⟨he, hw''⟩ => by subst he; exact hK _ hw''⟩
  | halt x w' => simp only [Oper.calmUpon] at h
theorem CalmAt.wpOpIn {W : World} {i : Nat} {o : Oper} {a b : Act} {w : World} {v : Value} {K : Act → World → Prop} {Q : Exit → Act → World → Prop} (ho : ops[i]? = some o) (hdf : ∀ c, o.op ≠ .defer c) (hsel : ∀ cs b, o.op ≠ .select cs b) (h : CalmAt P ops W o b v) (hw : Below W.heap.size W w)
    (hl : ∀ t, t ∈ o.looksAt ops → a.tmps[t]? = b.tmps[t]?) (hK : ∀ w', Below w.heap.size w w' → K (a.put o.dst v) w') : wpOpIn (Fence.wide.inRound lp) n P ops Q i K a w := by
  unfold Go.wpOpIn
  simp only [ho]
  rw [wanted_of_slots hl]
  rcases h with ⟨h1, h2⟩ | ⟨h1, rfl⟩
  · rw [if_pos h1]
    refine Oper.wpIn_of_calm hdf ?_ hK
    have := h2 w hw
    unfold Oper.calmAt at this ⊢
    rwa [exec_of_slots hsel hl]
  · rw [if_neg (by rw [h1]; exact Bool.false_ne_true)]
    exact ⟨fun _ _ => trivial, hK _ (Below.refl _ _)⟩
def noDefer (ops : Array Oper) : Bool := ops.all fun o => match o.op with | .defer _ => false | _ => true
theorem noDefer_spec (h : noDefer ops = true) {i : Nat} {o : Oper} (ho : ops[i]? = some o) (c) : o.op ≠ .defer c := by
  intro e
  unfold noDefer at h
  have := Array.all_eq_true'.1 h o (Array.mem_of_getElem? ho)
  rw [e] at this
  cases this
/-- a region all of whose operations are calm, within a round -/
theorem wpIn_region_calm {id : Nat} {Q : Exit → Act → World → Prop} {a : Act} {w : World} {l : List Oper} (hm : P.follows .mixedOrders = true) (hB : (orderedB .any l.toArray && noDefer l.toArray) = true)
    (h : wpCalm P l.toArray w (fun _ => false) (fun a' => ∀ w', Below w.heap.size w w' → Q .normal a' w') 0 l a) : (Code.region id l.toArray true).wpIn (Fence.wide.inRound lp) n P Q a w := by
  rw [Bool.and_eq_true] at hB
  have H := ordered_of hB.1
  obtain ⟨V, _, hval, hQ⟩ := wpCalm_values a l 0 (fun _ => undef) (fun j => by simp) h
  refine wpIn_region_any hm ?_
  refine wpAnyIn_inv (fun listed a' w' => a' = frameOf l.toArray V (fun k => listed.getD k false) a l.toArray.size ∧ Below w.heap.size w w') ?_ ?_ _ _ _ _ (left_le _ _) Shut.none ⟨?_, (Below.refl _ _).drew⟩
  · rintro listed a' w' i hs ⟨rfl, hb⟩ hr
    obtain ⟨hun, oi, hoi, _⟩ := mem_ready.1 hr
    have hi : i < l.toArray.size := (Array.getElem?_eq_some_iff.1 hoi).1
    refine CalmAt.wpOpIn hoi (noDefer_spec hB.2 hoi) (fun cs b => Region.noSelect_spec H.sel i oi cs b hoi) (hval i oi (Nat.zero_le _) (by simpa using hi) hoi rfl) hb (H.sees hs hoi hr (fun k hk hk2 d hd => ?_) (fun _ _ => rfl)) (fun w'' hb' => ⟨?_, bTrans hb hb'⟩)
    · simp at hk2
    · have e1 : dstOf l.toArray i = oi.dst := by simp [dstOf, hoi]
      rw [H.frame_put hs hi hun, e1]
  · rintro listed a' w' hs ⟨rfl, hb⟩ hr
    have hA := H.all hs hr
    have := hQ w' hb
    have hsz' : l.toArray.size = 0 + l.length := by simp
    rw [← hsz'] at this
    rw [frameOf_congr (M := fun k => !(fun _ => false) k) (V' := V) _ (fun j hj => ⟨by rw [hA j hj]; rfl, fun _ => rfl⟩)]
    exact this
  · refine (frameOf_none (fun k => ?_) _).symm
    rcases Nat.lt_or_ge k l.length with h' | h' <;> simp [h']
end
end Go.Proofs.YthnojgdckkdcgaaDoor

namespace Go.Proofs.YthnojgdckkdcgaaDoor
open Go.RowKit Go.Sort Go.Shelf
attribute [local go_sem] Oper.semAt_some
theorem kpC_t {C : Nat} {A B D : World} (h : KpC C A B) (k : KpC C B D) : KpC C A D := k.trans h
theorem kpC_b {C : Nat} {w : World} (hC : C < w.heap.size) (W : World) (l : Nat) (o o' : Obj) (hl : w.heap.size ≤ l) (_ : W.heap[l]? = some o) (_ : o.isCells = false) : KpC C W (W.putObj l o') :=
  World.cell?_of_block (a := ⟨C, 0, none⟩) (World.putObj_heap_other (by show C ≠ l; omega))
theorem kpC_of {C base : Nat} {W W' : World} (h : Below base W W') (hC : C < base) : KpC C W W' := h.cell (p := ⟨C, 0, none⟩) hC
theorem keeps_below {B : Nat} {W W' : World} (h : Below W.heap.size W W') : KeepsFrom B W W' := ⟨h.size, fun k _ _ hk _ => (h.block k (Array.getElem?_eq_some_iff.1 hk).1).trans hk⟩
theorem below_put {base : Nat} {w W : World} {D : Nat} (h : Below base w W) (hb : base ≤ W.heap.size) (hD : base ≤ D) (o : Obj) : Below base w (W.putObj D o) :=
  h.grown (grownBy_putObj' W D o) hb (fun k e => by injection e with e; omega)
/-- a cell ahead of the loop is kept -/
theorem ownFrom_cell {β : Type} {B b : Nat} (hb : b < B) (o : Nat) (v : Value) : OwnFrom B (fun (_ : β) W => b < W.heap.size ∧ W.cell? ⟨b, o, none⟩ = some v) :=
  fun _ X Y row hs hg hr => ⟨Nat.lt_of_lt_of_le hs.1 hg.size, (World.cell?_of_block (a := ⟨b, o, none⟩) (hg.block b hs.1 fun e => by have := (hr b e.symm).1; omega)).trans hs.2⟩
theorem ownFrom_box {β : Type} {B : Nat} (b : Nat) (cs : List Value) (h0 : cs ≠ []) : OwnFrom B (fun (_ : β) W => BoxAt W b cs) :=
  fun _ X Y row hs hg hr => by
    have hne : row ≠ some b := fun e => by
      obtain ⟨_, o, h1, h2⟩ := hr b e
      cases cs with
      | nil => exact h0 rfl
      | cons v cs =>
        have hc := hs.cell 0 v rfl
        simp only [World.cell?, h1] at hc
        cases o <;> simp_all [Obj.isCells]
    have hblk := hg.block b hs.lt (fun e => hne e.symm)
    exact ⟨Nat.lt_of_lt_of_le hs.lt hg.size, fun i v hi => (World.cell?_of_block (a := ⟨b, i, none⟩) hblk).trans (hs.cell i v hi)⟩
set_option maxHeartbeats 2000000 in
set_option maxRecDepth 100000 in
theorem alike_any (Aw Af : Option Addr) (cw cf C mp s : Nat) (t : Qt) (i j m : Nat) (w : World) (hc : CourtAt w C Aw Af cw cf t s mp) (ok : t.Ok) (hi : i < t.nw) (hj : j < t.nw) (hm : t.wells = (m : Int)) (hT : QAt w Aw Af t) :
    Calls Tryd.prog 35 #[.pointer (some ⟨C, 0, none⟩), .int .i64 i, .int .i64 j] w fun e w' => e = .returned (.bool (!t.someB t.tests i j)) ∧ Below w.heap.size w w' := by
  have m4 : m ≤ 4 := by have := ok.w1; omega
  have htest : t.tests = testsL m := by unfold Qt.tests; rw [hm]; rfl
  have HB0 : Below w.heap.size w ((((w.alloc (.cells #[.pointer (some ⟨C, 0, none⟩)] 74)).alloc (.cells #[.int .i64 i] 3)).alloc (.cells #[.int .i64 j] 3)).alloc (.cells #[.bool false] 4)) := bAlloc (bAlloc (bAlloc (bAlloc (Below.refl _ _) _) _) _) _
  have hcC := hc.box.cell 0 _ rfl
  rw [hm] at hcC
  have hltC := hc.box.lt
  have HC0 := Lib.hid (hc.mono HB0)
  have HT0 := Lib.hid (hT.mono HB0)
  have HOK := Lib.hid ok
  have HM := Lib.hid hm
  have HTE := Lib.hid htest
  have HB := Lib.hid HB0
  have HSEQ := Lib.hid (tests_seq 6 C m ((((w.alloc (.cells #[.pointer (some ⟨C, 0, none⟩)] 74)).alloc (.cells #[.int .i64 i] 3)).alloc (.cells #[.int .i64 j] 3)).alloc (.cells #[.bool false] 4)) (by decide) m4 (Nat.lt_of_lt_of_le hltC HB0.size) ((HB0.cell (p := ⟨C, 0, none⟩) hltC).trans hcC))
  clear hc hT ok hm htest HB0 hcC
  refine (callsIn_wide (n := 7)).1 ?_
  refine callsIn_of_wp_marks Tryd.func35 rfl trivial ?_ rfl
  simp only [Tryd.ntmps35, List.size_toArray, List.length_cons, List.length_nil, Nat.reduceAdd, Nat.reduceSub, Array.replicate_succ, Array.replicate_zero, List.push_toArray, List.append_toArray, List.nil_append, List.cons_append]
  gi_wp2
  refine wpIn_range_bound (gf := 32) (bnd := #[.pointer (some ⟨C, 0, none⟩)]) rfl (by decide) rfl trivial (enters_of Tryd.func32 (by kernel_rfl)) HSEQ.out kpC_t (kpC_b (by simp; omega)) (fun _ => rfl)
    (fun pre W => t.someB pre i j = false ∧ Below ((((w.alloc (.cells #[.pointer (some ⟨C, 0, none⟩)] 74)).alloc (.cells #[.int .i64 i] 3)).alloc (.cells #[.int .i64 j] 3)).alloc (.cells #[.bool false] 4)).heap.size ((((w.alloc (.cells #[.pointer (some ⟨C, 0, none⟩)] 74)).alloc (.cells #[.int .i64 i] 3)).alloc (.cells #[.int .i64 j] 3)).alloc (.cells #[.bool false] 4)) W)
    (fun c pre W => c = .ret ∧ t.someB pre i j = true ∧ (w.heap.size + 3 < W.heap.size ∧ W.cell? ⟨w.heap.size + 3, 0, none⟩ = some (.bool false)) ∧ Below w.heap.size w W)
    ((ownFrom_pure _ _).and (ownFrom_below (Nat.le_refl _) (Nat.le_refl _)))
    (fun c => (ownFrom_pure _ (fun _ => c = .ret)).and ((ownFrom_pure _ _).and ((ownFrom_cell (by simp) _ _).and (ownFrom_below (Nat.le_refl _) (by simp; omega)))))
    ⟨rfl, Below.refl _ _⟩
    (fun x a' W => ∃ bx, ((((w.alloc (.cells #[.pointer (some ⟨C, 0, none⟩)] 74)).alloc (.cells #[.int .i64 i] 3)).alloc (.cells #[.int .i64 j] 3)).alloc (.cells #[.bool false] 4)).heap.size ≤ bx ∧ BoxAt W bx [.int .i64 x.1, .int .i64 x.2] ∧ a' = { tmps := #[.pointer (some ⟨C, 0, none⟩), .int .i64 i, .int .i64 j, .pointer (some ⟨w.heap.size, 0, none⟩), .pointer (some ⟨w.heap.size + 1, 0, none⟩), .pointer (some ⟨w.heap.size + 1 + 1, 0, none⟩), .pointer (some ⟨w.heap.size + 1 + 1 + 1, 0, none⟩), .pointer (some ⟨bx, 0, none⟩), .pointer (some ⟨C, 0, none⟩), .func (.func 32) #[.pointer (some ⟨C, 0, none⟩)] #[], .agg #[.int .i64 x.1, .int .i64 x.2], undef, undef, undef, undef, undef, undef, undef, undef, undef], defers := [] })
    (fun x a' _ X Y row hs hg hr => by
      obtain ⟨bx, h1, h2, h3⟩ := hs
      exact ⟨bx, h1, ownFrom_box (β := Unit) bx _ (by simp) () X Y row h2 hg hr, h3⟩) ?assign ?body ?done ?stop
  case assign =>
    rintro l pre x W K hsz ⟨hpre, hbel⟩ hK
    have HBL := Lib.hid hbel
    clear hbel
    simp only [encT]
    gi_wp2
    exact hK _ _ (keeps_below (bAlloc (Below.refl _ _) _)) (kpC_of (bAlloc (Below.refl W.heap.size W) _) (by have := HBL.out.size; simp at this; omega)) ⟨hpre, bAlloc HBL.out _⟩ ⟨W.heap.size, hsz, BoxAt.two (by simp) (by simp [go_sem]) (by simp [go_sem]), rfl⟩
  case body =>
    rintro l pre x a' W hsz ⟨hpre, hbel⟩ ⟨bx, hbx, hX, rfl⟩ hlen
    have HBL := Lib.hid hbel
    have HPRE := Lib.hid hpre
    have hs := hbel.size
    simp only [World.size_alloc] at hs hbx
    have y0 := (hbel.cell (p := ⟨w.heap.size, 0, none⟩) (by simp <;> omega)).trans (show _ = some (.pointer (some ⟨C, 0, none⟩)) by simp [go_sem])
    have y1 := (hbel.cell (p := ⟨w.heap.size + 1, 0, none⟩) (by simp <;> omega)).trans (show _ = some (.int .i64 i) by simp [go_sem])
    have y2 := (hbel.cell (p := ⟨w.heap.size + 1 + 1, 0, none⟩) (by simp)).trans (show _ = some (.int .i64 j) by simp [go_sem])
    have y3 := (hbel.cell (p := ⟨w.heap.size + 1 + 1 + 1, 0, none⟩) (by simp)).trans (show _ = some (.bool false) by simp [go_sem])
    have y4 := (hbel.frozen (p := ⟨w.heap.size + 1 + 1 + 1, 0, none⟩) (by simp)).trans (show _ = false by simp [go_sem])
    have z0 : w.heap.size < W.heap.size := by omega
    have z1 : w.heap.size + 1 < W.heap.size := by omega
    have z2 : w.heap.size + 1 + 1 < W.heap.size := by omega
    have z3 : w.heap.size + 1 + 1 + 1 < W.heap.size := by omega
    have x0 := hX.lt
    have x1 := hX.cell 0 _ rfl
    have x2 := hX.cell 1 _ rfl
    have hxm := testsL_mem.1 (hlen.subset (List.mem_append_right _ (List.mem_singleton.2 rfl)))
    obtain ⟨p, q⟩ := x
    obtain ⟨u, hu⟩ : ∃ u, t.F i (p, q) = u := ⟨_, rfl⟩
    obtain ⟨v, hv⟩ : ∃ v, t.F j (p, q) = v := ⟨_, rfl⟩
    have HS := Lib.hid (show t.someB (pre ++ [(p, q)]) i j = (u != v) by
      unfold Qt.someB at hpre ⊢
      rw [List.any_append, hpre]
      simp [Qt.apart, hu, hv])
    have HC1 := Lib.hid (fun (w' : World) (hb : Below W.heap.size W w') => (hu ▸ shows_any Aw Af cw cf C mp s t p q i w' ((HC0.out.mono HBL.out).mono hb) HOK.out (by rw [HM.out]; have := hxm.1; simp at this; omega) (by rw [HM.out]; have := hxm.2; simp at this; omega) hi ((HT0.out.mono HBL.out).mono hb) : Calls Tryd.prog 48 #[.pointer (some ⟨C, 0, none⟩), .agg #[.int .i64 p, .int .i64 q], .int .i64 i] w' fun e w'' => e = .returned (.int .i64 u) ∧ Below w'.heap.size w' w''))
    have HC2 := Lib.hid (fun (w' : World) (hb : Below W.heap.size W w') => (hv ▸ shows_any Aw Af cw cf C mp s t p q j w' ((HC0.out.mono HBL.out).mono hb) HOK.out (by rw [HM.out]; have := hxm.1; simp at this; omega) (by rw [HM.out]; have := hxm.2; simp at this; omega) hj ((HT0.out.mono HBL.out).mono hb) : Calls Tryd.prog 48 #[.pointer (some ⟨C, 0, none⟩), .agg #[.int .i64 p, .int .i64 q], .int .i64 j] w' fun e w'' => e = .returned (.int .i64 v) ∧ Below w'.heap.size w' w''))
    clear hbel hX hpre hu hv hlen hxm
    by_cases huv : u = v
    · have g0 : (u == v) = true := by simp [huv]
      have HF := Lib.hid (show t.someB (pre ++ [(p, q)]) i j = false by rw [HS.out]; simp [huv])
      clear huv
      gi_wp2
      refine wpIn_region_calm (by kernel_rfl) (by kernel_rfl) ?_
      repeat (first | (refine wpCalm_skip rfl ?_) | (refine wpCalm_step rfl (fun K hK => ?_); go_simp; (first | (refine hK _ ?_; clear hK K) | (apply Exists.intro; refine ⟨fun _ => ?_, hK _ ?_⟩; ((first | (go_at_call 48; with_reducible exact newer_of (HC1.out _ (below_regrown _ _ _))) | (go_at_call 48; with_reducible exact newer_of (HC2.out _ (below_regrown _ _ _))))); clear hK K))))
      refine wpCalm_nil ?_
      intro w4 hb4
      have HB4 := Lib.hid hb4
      clear hb4
      gi_wp2
      exact ⟨keeps_below HB4.out, kpC_of HB4.out (by omega), HF.out, bTrans HBL.out HB4.out⟩
    · have g0 : (u == v) = false := by simp [huv]
      have HF := Lib.hid (show t.someB (pre ++ [(p, q)]) i j = true by rw [HS.out]; simp [huv])
      clear huv
      gi_wp2
      refine wpIn_region_calm (by kernel_rfl) (by kernel_rfl) ?_
      repeat (first | (refine wpCalm_skip rfl ?_) | (refine wpCalm_step rfl (fun K hK => ?_); go_simp; (first | (refine hK _ ?_; clear hK K) | (apply Exists.intro; refine ⟨fun _ => ?_, hK _ ?_⟩; ((first | (go_at_call 48; with_reducible exact newer_of (HC1.out _ (below_regrown _ _ _))) | (go_at_call 48; with_reducible exact newer_of (HC2.out _ (below_regrown _ _ _))))); clear hK K))))
      refine wpCalm_nil ?_
      intro w4 hb4
      have HB4 := Lib.hid hb4
      obtain ⟨bc4, bf4⟩ := bcell hb4
      have hz4 := hb4.size
      clear hb4
      gi_wp2
      have HB5 : Below w.heap.size w W := bTrans HB.out HBL.out
      refine ⟨(keeps_below HB4.out).trans ((KeepsOthers.setCell _ _ _).from _), rfl, HF.out, ⟨by simp [World.setCell]; omega, ?_⟩, Below.setCell (p := ⟨w.heap.size + 1 + 1 + 1, 0, none⟩) (bTrans HB5 HB4.out) (by simp <;> omega) _⟩
      exact World.cell?_setCell_same _ _ _ ((HB4.out.cell (p := ⟨w.heap.size + 1 + 1 + 1, 0, none⟩) z3).trans y3)
  case done =>
    rintro D xs W hD rfl ⟨hno, hbel⟩ hK
    have HE := Lib.hid (show t.someB t.tests i j = false by rw [HTE.out]; exact hno)
    have HBL := Lib.hid hbel
    have hs := hbel.size
    simp only [World.size_alloc] at hs
    have y3 := (hbel.cell (p := ⟨w.heap.size + 1 + 1 + 1, 0, none⟩) (by simp)).trans (show _ = some (.bool false) by simp [go_sem])
    have y4 := (hbel.frozen (p := ⟨w.heap.size + 1 + 1 + 1, 0, none⟩) (by simp)).trans (show _ = false by simp [go_sem])
    have z3 : w.heap.size + 1 + 1 + 1 < W.heap.size := by omega
    clear hbel hno
    gi_wp2
    have hK' := (KeepsOthers.setCell W ⟨w.heap.size + 1 + 1 + 1, 0, none⟩ (.bool true)).same D _ hK rfl
    refine ⟨by simp, .inl ⟨_, _, rfl, run_takeDeferred hK', ?_⟩⟩
    have hc5 := cell_kept (World.cell?_setCell_same W ⟨w.heap.size + 1 + 1 + 1, 0, none⟩ (.bool true) y3) (grownBy_putObj' _ D (.deferred none)) (fun r e => by cases e; exact ⟨_, hK', rfl⟩)
    simp at hD
    refine ⟨.bool true, ?_, by rw [HE.out]; rfl, below_put (Below.setCell (p := ⟨w.heap.size + 1 + 1 + 1, 0, none⟩) (bTrans HB.out HBL.out) (by simp <;> omega) _) (by simp [World.setCell]; omega) (by omega) _⟩
    simp [results, Tryd.results35, go_sem, hc5]
  case stop =>
    rintro D c pre W hD hpre ⟨rfl, hsome, ⟨hlt, hcell⟩, hbel⟩ hK
    have HE := Lib.hid (show t.someB t.tests i j = true by rw [HTE.out]; exact someB_sub (fun x hx => hpre.subset hx) hsome)
    have HBL := Lib.hid hbel
    clear hbel hsome hpre
    gi_wp2
    refine ⟨by simp, .inl ⟨_, _, rfl, run_takeDeferred hK, ?_⟩⟩
    have hc5 := cell_kept hcell (grownBy_putObj' _ D (.deferred none)) (fun r e => by cases e; exact ⟨_, hK, rfl⟩)
    simp at hD
    refine ⟨.bool false, ?_, by rw [HE.out]; rfl, below_put HBL.out (by omega) (by omega) _⟩
    simp [results, Tryd.results35, go_sem, hc5]
end Go.Proofs.YthnojgdckkdcgaaDoor

namespace Go.Proofs.YthnojgdckkdcgaaDoor
open Go.RowKit Go.Sort Go.Shelf
attribute [local go_sem] Oper.semAt_some
theorem wpListIn_snocE {α : Type} {E : Elem α} (g : E.Good) {F : Fence} {n : Nat} (w : World) {ops : Array Oper} {rest : List Oper} {o : Oper} {a : Act} {Q : Exit → Act → World → Prop} (hg : o.guard = none) (s x : Operand) (hop : o.op = Op.call { callee := Callee.builtin Builtin.append, args := #[s, x], argTypes := #[E.sl, E.sl] })
    (base : Nat) (v : Value) (l : List α) (y : α) (hs : a.eval s = v) (hown : OwnE E w base v l) (b : Nat) (hx : a.eval x = .slice (some ⟨b, 0, none⟩) 1 1) (hc : ∀ i u, (E.enc y)[i]? = some u → w.cell? ⟨b, i, none⟩ = some u) (hlen : l.length ≤ 100000) (hbase : base ≤ w.heap.size)
    (h : ∀ v' w', OwnE E w' base v' (l ++ [y]) → (∀ b0 W, b0 ≤ base → Below b0 W w → Below b0 W w') → w.grownBy w' v.ownBlock → wpListIn F n Tryd.prog ops Q rest (a.put o.dst v') w') : wpListIn F n Tryd.prog ops Q (o :: rest) a w := by
  obtain ⟨i0, hi, iz0, iz1, iz2⟩ := info_parts g.info
  refine wpListIn_append_own w hg s x E.sl hop base E.ty i0 E.z E.size E.bytes g.und hi iz0 iz1 iz2 g.zs g.pos v l.length (E.cells l) hs hown ⟨b, 0, none⟩ 1 1 (E.enc y) hx (by rw [g.len, Nat.one_mul]) (fun j u hj => ?_) (fun u hu => g.one y u hu) (by unfold maxLen; omega) (by have := g.by_; exact Nat.le_trans (Nat.mul_le_mul (show l.length + 1 ≤ 100001 by omega) this) (by decide)) hbase fun v' w' h1 h2 h3 => ?_
  · have := hc j u hj
    rwa [show (⟨b, 0, none⟩ : Addr).add j = ⟨b, j, none⟩ from by unfold Addr.add; split <;> simp_all]
  · refine h v' w' ?_ (fun b0 W hb hB => hB.grown h2 (Nat.le_trans hb hbase) fun k hk => Nat.le_trans hb (hown.lt k hk).1) h2
    show w'.ownsRow base E.ty E.size v' (l ++ [y]).length (E.cells (l ++ [y]))
    rw [List.length_append, show E.cells (l ++ [y]) = E.cells l ++ E.enc y from by simp [Elem.cells]]
    exact h1
theorem OwnE.set {α : Type} {E : Elem α} {w : World} {base : Nat} {v : Value} {l : List α} (h : OwnE E w base v l) {b : Nat} (hb : b < base) (o : Nat) (u : Value) : OwnE E (w.setCell ⟨b, o, none⟩ u) base v l :=
  ⟨h.1, h.2.imp id fun ⟨g, cap, cur, h1, h2, h3, h4⟩ => ⟨g, cap, cur, h1, h2, (Below.heap_setCell w ⟨b, o, none⟩ u g (by show g ≠ b; omega)).trans h3, h4⟩⟩
set_option maxHeartbeats 2000000 in
set_option maxRecDepth 100000 in
theorem appendSeq_any (C m : Nat) (w : World) (hm : m ≤ 4) (hlt : C < w.heap.size) (hc : w.cell? ⟨C, 0, none⟩ = some (.int .i64 m)) :
    Calls Tryd.prog 47 #[.slice none 0 0, .func (.func 32) #[.pointer (some ⟨C, 0, none⟩)] #[]] w fun e w' => (∃ v, e = .returned v ∧ OwnE tstE w' w.heap.size v (testsL m)) ∧ Below w.heap.size w w' := by
  have HB0 : Below w.heap.size w (w.alloc (.cells #[.slice none 0 0] 47)) := bAlloc (Below.refl _ _) _
  have HSEQ := Lib.hid (tests_seq 6 C m (w.alloc (.cells #[.slice none 0 0] 47)) (by decide) hm (Nat.lt_of_lt_of_le hlt HB0.size) ((HB0.cell (p := ⟨C, 0, none⟩) hlt).trans hc))
  have HB := Lib.hid HB0
  clear hc HB0
  refine (callsIn_wide (n := 7)).1 ?_
  refine callsIn_of_wp_marks Tryd.func47 rfl trivial ?_ rfl
  simp only [Tryd.ntmps47, List.size_toArray, List.length_cons, List.length_nil, Nat.reduceAdd, Nat.reduceSub, Array.replicate_succ, Array.replicate_zero, List.push_toArray, List.append_toArray, List.nil_append, List.cons_append]
  gi_wp2
  refine wpIn_range_bound (gf := 32) (bnd := #[.pointer (some ⟨C, 0, none⟩)]) rfl (by decide) rfl trivial (enters_of Tryd.func32 (by kernel_rfl)) HSEQ.out kpC_t (kpC_b (by simp; omega)) (fun _ => rfl)
    (fun pre W => (∃ v, Boxed W w.heap.size 47 v ∧ W.ownsRow (w.heap.size + 1) 51 2 v pre.length (tstE.cells pre) ∧ True) ∧ Below w.heap.size w W)
    (fun c pre W => False)
    (OwnFrom.and (Own.from (holdsRow_own (w.heap.size + 1) w.heap.size 47 51 2 List.length tstE.cells (fun _ _ => True)) _) (ownFrom_below (Nat.le_refl _) (by simp)))
    (fun c _ _ _ _ hs _ _ => hs)
    ⟨⟨_, Boxed.new w _ _, World.ownsRow_nil _ _ _ _, trivial⟩, HB.out⟩
    (fun x a' W => ∃ bx, w.heap.size + 1 ≤ bx ∧ BoxAt W bx [.int .i64 x.1, .int .i64 x.2] ∧ a' = { tmps := #[.slice none 0 0, .func (.func 32) #[.pointer (some ⟨C, 0, none⟩)] #[], .pointer (some ⟨w.heap.size, 0, none⟩), undef, .slice none 0 0, .pointer (some ⟨bx, 0, none⟩), .func (.func 32) #[.pointer (some ⟨C, 0, none⟩)] #[], .agg #[.int .i64 x.1, .int .i64 x.2], undef, undef, undef, undef, undef], defers := [] })
    (fun x a' _ X Y row hs hg hr => by
      obtain ⟨bx, h1, h2, h3⟩ := hs
      exact ⟨bx, h1, ownFrom_box (β := Unit) bx _ (by simp) () X Y row h2 hg hr, h3⟩) ?assign ?body ?done ?stop
  case assign =>
    rintro l pre x W K hsz ⟨⟨v, hv, hrow, _⟩, hbel⟩ hK
    have HV := Lib.hid hv
    have HR := Lib.hid hrow
    have HBL := Lib.hid hbel
    simp only [World.size_alloc] at hsz
    clear hbel hv hrow
    simp only [encT]
    gi_wp2
    refine hK _ _ (keeps_below (bAlloc (Below.refl _ _) _)) (kpC_of (bAlloc (Below.refl W.heap.size W) _) (by omega)) ⟨⟨v, HV.out.alloc _, owns_below HR.out (bAlloc (Below.refl _ _) _), trivial⟩, bAlloc HBL.out _⟩ ⟨W.heap.size, hsz, BoxAt.two (by simp) (by simp [go_sem]) (by simp [go_sem]), rfl⟩
  case body =>
    rintro l pre x a' W hsz ⟨⟨v, hv, hrow, _⟩, hbel⟩ ⟨bx, hbx, hX, rfl⟩ hlen
    have HBL := Lib.hid hbel
    have HV := Lib.hid hv
    have HR := Lib.hid (show OwnE tstE W (w.heap.size + 1) v pre from hrow)
    have hpl : pre.length ≤ 100 := by
      have h1 := hlen.length_le
      rw [testsL_len, List.length_append] at h1
      have : m * m ≤ 4 * 4 := Nat.mul_le_mul hm hm
      omega
    have y0 := hv.cell
    have y1 := hv.frozen
    have z0 := hv.lt
    have x0 := hX.lt
    have x1 := hX.cell 0 _ rfl
    have x2 := hX.cell 1 _ rfl
    simp only [World.size_alloc] at hsz
    clear hbel hX hrow hlen hv
    gi_wp2_with (gi_at_builtin; refine wpListIn_snocE tstG _ rfl (Operand.tmp 8) (Operand.tmp 10) rfl (w.heap.size + 1) v pre x rfl ?q1 W.heap.size rfl ?q2 ?q3 ?q4 ?_)
    case q1 => exact HR.out.mono (bAlloc (Below.refl _ _) _)
    case q2 =>
      intro a u hu
      match a, hu with
      | 0, hu =>
        obtain rfl : Value.int .i64 x.1 = u := by simpa [tstE] using hu
        simp [go_sem]
      | 1, hu =>
        obtain rfl : Value.int .i64 x.2 = u := by simpa [tstE] using hu
        simp [go_sem]
    case q3 => omega
    case q4 => simp; omega
    intro v' w5 hown5 hb5 hg5
    have HB5 := Lib.hid (hb5 w.heap.size w (by omega) (bAlloc HBL.out _))
    have hrowA : World.ownsRow (W.alloc (.cells #[.int .i64 x.1, .int .i64 x.2] 51)) (w.heap.size + 1) 51 2 v pre.length (tstE.cells pre) := owns_below HR.out (bAlloc (Below.refl _ _) _)
    have hv5 := (HV.out.alloc (.cells #[.int .i64 x.1, .int .i64 x.2] 51)).kept hg5 (Boxed.not_row (e := 51) (HV.out.alloc _) (by decide) hrowA)
    clear hrowA
    obtain ⟨g5, c5, rfl, _⟩ := hown5.lst (by simp)
    obtain ⟨n5, hn5⟩ : ∃ n5, (pre ++ [x]).length = n5 := ⟨_, rfl⟩
    rw [hn5] at hown5 ⊢
    clear hn5
    have HV5 := Lib.hid hv5
    have HO5 := Lib.hid hown5
    have HG5 := Lib.hid hg5
    have y5 := hv5.cell
    have y6 := hv5.frozen
    have z5 := hv5.lt
    clear hb5 hg5 hv5 hown5 y0 y1 x0 x1 x2
    gi_wp2
    refine ⟨?_, ?_, ⟨⟨_, HV5.out.set _, HO5.out.set (b := w.heap.size) (by omega) 0 _, trivial⟩, Below.setCell (p := ⟨w.heap.size, 0, none⟩) HB5.out (Nat.le_refl _) _⟩⟩
    · refine ((keeps_below (bAlloc (Below.refl W.heap.size W) _)).trans ((KeepsOthers.of_grownBy HG5.out fun r ob e hob => ?_).from _)).trans ((KeepsOthers.setCell _ _ _).from _)
      obtain ⟨_, cur, hcur⟩ := owns_typed (owns_below HR.out (bAlloc (Below.refl _ _) (.cells #[.int .i64 x.1, .int .i64 x.2] 51))) r e
      rw [hcur] at hob
      injection hob with hob
      rw [← hob]
      rfl
    · have h1 := (HB5.out.cell (p := ⟨C, 0, none⟩) hlt).trans (HBL.out.cell (p := ⟨C, 0, none⟩) hlt).symm
      exact (World.cell?_setCell_other _ _ _ _ (fun e => by injection e with e; omega)).trans h1
  case done =>
    rintro D xs W hD rfl ⟨⟨v, hv, hrow, _⟩, hbel⟩ hK
    have HBL := Lib.hid hbel
    have HV := Lib.hid hv
    have HR := Lib.hid hrow
    have y0 := hv.cell
    clear hbel hv hrow
    gi_wp2
    refine ⟨by simp, .inl ⟨_, _, rfl, run_takeDeferred hK, ?_⟩⟩
    simp only [World.size_alloc] at hD
    exact ⟨_, results_tmp rfl _ _ _, ⟨v, rfl, owns_lower (ownsRow_putObj HR.out _ hK rfl) (Nat.le_succ _)⟩, below_put HBL.out (by have := HV.out.lt; omega) (by omega) _⟩
  case stop =>
    rintro D c pre W _ _ h _
    exact h.elim
theorem collect_any (C m : Nat) (w : World) (hm : m ≤ 4) (hlt : C < w.heap.size) (hc : w.cell? ⟨C, 0, none⟩ = some (.int .i64 m)) :
    Calls Tryd.prog 31 #[.func (.func 32) #[.pointer (some ⟨C, 0, none⟩)] #[]] w fun e w' => (∃ v, e = .returned v ∧ OwnE tstE w' w.heap.size v (testsL m)) ∧ Below w.heap.size w w' := by
  have HC := Lib.hid (appendSeq_any C m w hm hlt hc)
  clear hc
  go_enter Tryd.func31, Tryd.ntmps31
  go_wp2_with fail
  refine HC.out.mono ?_
  rintro e w' ⟨⟨v, rfl, hv⟩, hb⟩
  have HV := Lib.hid hv
  go_wp2_with fail
  go_ret
  exact ⟨⟨v, rfl, HV.out⟩, hb⟩
end Go.Proofs.YthnojgdckkdcgaaDoor

namespace Go.Proofs.YthnojgdckkdcgaaDoor
open Go.RowKit Go.Sort
/-- the fewest tests that tell all apart -/
def Qt.fewest (t : Qt) (L : List Int) : List Tp := fewestL t.tests fun l => t.allApart l L
theorem allApart_tests (t : Qt) (L : List Int) : t.allApart t.tests L = true := allApart_iff.2 fun _ _ _ _ h => h
/-! ### Next -/
end Go.Proofs.YthnojgdckkdcgaaDoor

namespace Go.Proofs.YthnojgdckkdcgaaDoor
open Go.RowKit Go.Sort Go.Shelf
theorem fewest1_any (Aw Af : Option Addr) (cw cf C mp s a : Nat) (t : Qt) (i j m : Nat) (w : World) (hc : CourtAt w C Aw Af cw cf t s mp) (ok : t.Ok) (hi : i < t.nw) (hj : j < t.nw) (hm : t.wells = (m : Int)) (hT : QAt w Aw Af t) (ha : a < w.heap.size) (hca : w.cell? ⟨a, 0, none⟩ = some (.pointer (some ⟨C, 0, none⟩))) :
    Calls Tryd.prog 34 #[.int .i64 i, .int .i64 j, .pointer (some ⟨a, 0, none⟩)] w fun e w' => e = .returned (.bool (t.someB t.tests i j)) ∧ Below w.heap.size w w' := by
  have HA := Lib.hid (alike_any Aw Af cw cf C mp s t i j m w hc ok hi hj hm hT)
  clear hc ok hi hj hm hT
  go_enter Tryd.func34, Tryd.ntmps34
  go_wp2_with fail
  refine HA.out.mono ?_
  rintro e w' ⟨rfl, hb⟩
  go_wp2_with fail
  go_ret
  exact ⟨by simp, hb⟩
/-- a list of tests, or an error -/
def LstOut (w : World) (er : Int) (L : List Tp) (e : Ending) : Prop := (er = 0 → ∃ A c, e = .returned (.tuple #[.slice A L.length c, .int .i64 er]) ∧ LstAt w A c L) ∧ (er ≠ 0 → e = .returned (.tuple #[.slice none 0 0, .int .i64 er]))
def ShapeL (n : Nat) (v : Value) : Prop := ∃ A c, v = .slice A n c
theorem ownLG {α : Type} (E : Elem α) (n N : Nat) (l : List α) : (Stir.held (ShapeL n) (fun w v => OwnE E w N v l)).good := ⟨⟨_, none, 0, rfl⟩, fun _ _ _ hb h => OwnE.mono h hb⟩
theorem OwnE.shape {α : Type} {E : Elem α} {w : World} {N : Nat} {v : Value} {l : List α} (h : OwnE E w N v l) : ShapeL l.length v := by
  obtain ⟨A, c, e, _⟩ := h.read
  exact ⟨A, c, e⟩
/-- what fewest hands back, in a region -/
def FewS (nl : Nat) (bz : Bool) (v : Value) : Prop := ∃ A c, v = .tuple #[.slice A nl c, .bool bz]
def FewR (bz : Bool) (L : List Tp) (w : World) (v : Value) : Prop := ∀ A n c, v = .tuple #[.slice A n c, .bool bz] → bz = true → LstAt w A c L
def SliR (bz : Bool) (L : List Tp) (w : World) (v : Value) : Prop := ∀ A n c, v = .slice A n c → bz = true → LstAt w A c L
theorem fewG (nl : Nat) (bz : Bool) (L : List Tp) : (Stir.held (FewS nl bz) (FewR bz L)).good := ⟨⟨_, none, 0, rfl⟩, fun _ _ _ hb h A n c e h1 => (h A n c e h1).mono hb⟩
theorem sliG (nl : Nat) (bz : Bool) (L : List Tp) : (Stir.held (ShapeL nl) (SliR bz L)).good := ⟨⟨_, none, 0, rfl⟩, fun _ _ _ hb h A n c e h1 => (h A n c e h1).mono hb⟩
theorem FewR.of {bz : Bool} {L : List Tp} {w : World} {A : Option Addr} {n c : Nat} (h : bz = true → LstAt w A c L) : FewR bz L w (.tuple #[.slice A n c, .bool bz]) := fun A' n' c' e hb => by
  simp only [Value.tuple.injEq, Array.mk.injEq, List.cons.injEq, Value.slice.injEq, and_true] at e
  obtain ⟨rfl, _, rfl⟩ := e
  exact h hb
theorem SliR.of {bz : Bool} {L : List Tp} {w : World} {A : Option Addr} {n c : Nat} (h : bz = true → LstAt w A c L) : SliR bz L w (.slice A n c) := fun A' n' c' e hb => by
  simp only [Value.slice.injEq] at e
  obtain ⟨rfl, _, rfl⟩ := e
  exact h hb
theorem FewR.get {bz : Bool} {L : List Tp} {w : World} {A : Option Addr} {n c : Nat} (h : FewR bz L w (.tuple #[.slice A n c, .bool bz])) : bz = true → LstAt w A c L := h A n c rfl
theorem SliR.get {bz : Bool} {L : List Tp} {w : World} {A : Option Addr} {n c : Nat} (h : SliR bz L w (.slice A n c)) : bz = true → LstAt w A c L := h A n c rfl
theorem tests_ok (t : Qt) (h : 0 ≤ t.wells) : t.TestsOk t.tests := fun x hx => by
  have := testsL_mem.1 hx
  omega
set_option maxHeartbeats 4000000 in
set_option maxRecDepth 100000 in
theorem fewestQ_any (Aw Af : Option Addr) (cw cf : Nat) (t : Qt) (w : World) (hs : t.Small) (hT : QAt w Aw Af t) (hB : TabAt w) :
    Calls Tryd.prog 14 #[.agg #[.int .i64 t.wells, .slice Aw t.nw cw, .slice Af t.nf cf]] w fun e w' => LstOut w' (t.knowErr true) (t.fewest t.leftL) e ∧ Below w.heap.size w w' := by
  have hb0 := bAlloc (Below.refl w.heap.size w) (.cells #[.int .i64 t.wells, .slice Aw t.nw cw, .slice Af t.nf cf] 39)
  have HT := Lib.hid (hT.mono hb0)
  have HTB := Lib.hid (hB.mono hb0)
  have HB := Lib.hid hb0
  clear hT hb0 hB
  obtain ⟨er, her⟩ : ∃ er, t.knowErr true = er := ⟨_, rfl⟩
  have HO := Lib.hid (openQ_any Aw Af cw cf t true _ hs HT.out)
  rw [her] at HO ⊢
  have HKE := Lib.hid her
  clear her
  by_cases he : er = 0
  · subst he
    obtain ⟨ok, _, hne⟩ := knowErr_zero HKE.out
    have HOK := Lib.hid ok
    obtain ⟨m, hm⟩ : ∃ m : Nat, t.wells = (m : Int) := ⟨t.wells.toNat, by have := ok.w0; omega⟩
    have HM := Lib.hid hm
    have m4 : m ≤ 4 := by have := ok.w1; omega
    have HTE := Lib.hid (show t.tests = testsL m by unfold Qt.tests; rw [hm]; rfl)
    have h64 := mask_64 t ok.nw
    obtain ⟨s, hsk⟩ : ∃ s, t.maskTo t.nw = s := ⟨_, rfl⟩
    have HBM := Lib.hid (show bitsL s = t.leftL by rw [← hsk]; exact bits_mask t ok.nw)
    have HSK := Lib.hid hsk
    rw [hsk] at h64
    clear hne ok hsk hm
    go_enter Tryd.func14, Tryd.ntmps14
    go_wp2_with fail
    refine HO.out.mono ?_
    rintro e w1 ⟨⟨_, hk⟩, hb1⟩
    obtain ⟨C, mp, rfl, hc, _, _⟩ := hk rfl
    rw [HSK.out] at hc
    have hb2 := bTrans hb1 (bAlloc (Below.refl w1.heap.size w1) (.cells #[.pointer (some ⟨C, 0, none⟩)] 74))
    have HCT := Lib.hid (hc.mono (bAlloc (Below.refl w1.heap.size w1) (.cells #[.pointer (some ⟨C, 0, none⟩)] 74)))
    have HB2 := Lib.hid hb2
    have hz1 := hb1.size
    simp only [World.size_alloc] at hz1
    have hcw := hc.box.cell 0 _ rfl
    rw [HM.out] at hcw
    have hlc := hc.box.lt
    have HCW := Lib.hid ((bAlloc (Below.refl w1.heap.size w1) (.cells #[.pointer (some ⟨C, 0, none⟩)] 74)).cell (p := ⟨C, 0, none⟩) hlc |>.trans hcw)
    clear hk hc hb1 hb2 hcw
    go_wp2_with fail
    obtain ⟨nt, hnt⟩ : ∃ nt, (testsL m).length = nt := ⟨_, rfl⟩
    obtain ⟨ps, hps⟩ : ∃ ps, pairsL (fun a b => t.someB t.tests a b) t.leftL = ps := ⟨_, rfl⟩
    obtain ⟨np, hnp⟩ : ∃ np, ps.length = np := ⟨_, rfl⟩
    obtain ⟨nl, hnl⟩ : ∃ nl, (t.fewest t.leftL).length = nl := ⟨_, rfl⟩
    refine wp_region_stir 13 [.const (.pointer (some ⟨C, 0, none⟩)), .const (.pointer (some ⟨C, 0, none⟩)), .const (.func (.func 32) #[.pointer (some ⟨C, 0, none⟩)] #[]), .held (ShapeL nt) (fun w v => OwnE tstE w 0 v (testsL m)), .const (.pointer (some ⟨C, 0, none⟩)), .const (.func (.func 34) #[] #[.pointer (some ⟨w1.heap.size, 0, none⟩)]), .held (ShapeL np) (fun w v => OwnE prE w 0 v ps),
      .held (FewS nl true) (FewR true (t.fewest t.leftL)), .held (FewS nl true) (FewR true (t.fewest t.leftL)), .held (ShapeL nl) (SliR true (t.fewest t.leftL)), .const (.bool true), .held (ShapeL nl) (SliR true (t.fewest t.leftL)), .const (.bool true)]
      (by kernel_rfl) (by kernel_rfl) rfl ⟨trivial, trivial, trivial, ownLG _ _ _ _, trivial, trivial, ownLG _ _ _ _, fewG _ _ _, fewG _ _ _, sliG _ _ _, trivial, sliG _ _ _, trivial, trivial⟩ (crossAll_no _ _ _ _ trivial) ?_
    iterate 3 refine wpStir_const (by go_simp) ?_
    refine wpStir_held rfl (fun w' hb hd => ?_) (fun v hv => ?_)
    · go_simp
      refine (collect_any C m w' m4 (Nat.lt_of_lt_of_le HCT.out.box.lt hb.size) ((hb.cell (p := ⟨C, 0, none⟩) HCT.out.box.lt).trans HCW.out)).mono ?_
      rintro e w'' ⟨⟨v, rfl, hv⟩, hb'⟩
      exact ⟨v, rfl, hb', hnt ▸ hv.shape, hv.lower (Nat.zero_le _)⟩
    obtain ⟨At, ct, rfl⟩ := hv
    iterate 2 refine wpStir_const (by go_simp) ?_
    simp only [Act.put, List.setIfInBounds_toArray, List.set_cons_succ, List.set_cons_zero]
    refine wpStir_held rfl (fun w' hb hd => ?_) (fun v hv => ?_)
    · clear hd
      go_simp
      refine (pairs_any Aw Af cw cf C mp s t 34 #[.pointer (some ⟨w1.heap.size, 0, none⟩)] (fun a b => t.someB t.tests a b) w' (HCT.out.mono hb) h64 HBM.out HOK.out.nw ((HTB.out.mono HB2.out).mono hb) (enters_of Tryd.func34 (by kernel_rfl)) (fun i j hi hj w'' hb' => by
        have hz := hb'.size
        have hz2 := hb.size
        simp only [World.size_alloc] at hz2
        exact fewest1_any Aw Af cw cf C mp s w1.heap.size t i j m w'' ((HCT.out.mono hb).mono hb') HOK.out hi hj HM.out (((HT.out.mono HB2.out).mono hb).mono hb') (by omega) (((bTrans hb hb').cell (p := ⟨w1.heap.size, 0, none⟩) (by simp)).trans (by simp [go_sem])))).mono ?_
      rintro e w'' ⟨⟨v, rfl, hv⟩, hb'⟩
      rw [hps] at hv
      exact ⟨v, rfl, hb', hnp ▸ hv.shape, hv.lower (Nat.zero_le _)⟩
    obtain ⟨Ap, cp, rfl⟩ := hv
    refine wpStir_held rfl (fun w' hb hd => ?_) (fun v hv => ?_)
    · have h1 := hd.1 (by kernel_rfl)
      have h2 := hd.2.1 (by kernel_rfl)
      clear hd
      obtain ⟨A1, c1, e1, r1⟩ := h1.read
      obtain ⟨A2, c2, e2, r2⟩ := h2.read
      simp only [Value.slice.injEq] at e1 e2
      obtain ⟨rfl, e3, rfl⟩ := e1
      obtain ⟨rfl, e4, rfl⟩ := e2
      clear e3 e4
      have hfw := fewest_any Aw Af Ap At cw cf cp ct C mp s t (testsL m) ps w' (HCT.out.mono hb) HOK.out (HTE.out ▸ tests_ok t HOK.out.w0) (hps ▸ pairs_ok t _) (by rw [testsL_len]; have : m * m ≤ 4 * 4 := Nat.mul_le_mul m4 m4; omega) (by rw [← hps]; have h1 := pairsL_len (fun a b => t.someB t.tests a b) t.leftL; have h2 := leftTo_len t t.nw; have h3 := HOK.out.nw; have h4 : t.leftL.length * t.leftL.length ≤ 6 * 6 := Nat.mul_le_mul (by unfold Qt.leftL; omega) (by unfold Qt.leftL; omega); omega) ((HT.out.mono HB2.out).mono hb) r2 r1
      rw [hnt, hnp] at hfw
      clear h1 h2 r1 r2
      go_simp
      refine hfw.mono ?_
      rintro e w'' ⟨⟨ho, _⟩, hb'⟩
      have htl : ∀ l, t.told l ps = t.allApart l t.leftL := fun l => by rw [← hps]; exact told_apart t l t.leftL
      obtain ⟨A, c, rfl, hl⟩ := ho (by rw [htl, ← HTE.out]; exact allApart_tests t _)
      have hfe : fewestL (testsL m) (fun x => t.told x ps) = t.fewest t.leftL := by
        unfold Qt.fewest
        rw [HTE.out]
        congr 1
        funext l
        exact htl l
      rw [hfe] at hl
      refine ⟨_, rfl, hb', ⟨A, c, by rw [hfe, hnl]⟩, FewR.of fun _ => hl⟩
    obtain ⟨A7, c7, rfl⟩ := hv
    simp only [Act.put, List.setIfInBounds_toArray, List.set_cons_succ, List.set_cons_zero]
    refine wpStir_held rfl (fun w' hb hd => ?_) (fun v hv => ?_)
    · have h1 := Lib.hid (hd.1 (by kernel_rfl))
      clear hd
      go_simp
      exact ⟨⟨_, _, rfl⟩, h1.out⟩
    obtain ⟨A8, c8, rfl⟩ := hv
    refine wpStir_held rfl (fun w' hb hd => ?_) (fun v hv => ?_)
    · have h1 := Lib.hid (hd.1 (by kernel_rfl))
      clear hd
      go_simp
      exact ⟨⟨_, _, rfl⟩, SliR.of (FewR.get h1.out)⟩
    obtain ⟨A9, c9, rfl⟩ := hv
    refine wpStir_const (by go_simp) ?_
    simp only [Act.put, List.setIfInBounds_toArray, List.set_cons_succ, List.set_cons_zero]
    refine wpStir_held rfl (fun w' hb hd => ?_) (fun v hv => ?_)
    · have h1 := Lib.hid (hd.1 (by kernel_rfl))
      clear hd
      go_simp
      exact ⟨⟨_, _, rfl⟩, h1.out⟩
    obtain ⟨A11, c11, rfl⟩ := hv
    refine wpStir_const (by go_simp) ?_
    refine wpStir_end (fun w5 hb5 hd => ?_)
    have HLF := Lib.hid (SliR.get hd.1 rfl)
    have HB5 := Lib.hid (bTrans HB2.out hb5)
    clear hb5
    clear hd
    simp only [List.drop_succ_cons, List.drop_zero]
    simp only [Act.put, List.setIfInBounds_toArray, List.set_cons_succ, List.set_cons_zero]
    go_wp2_with fail
    go_ret2
    exact ⟨⟨fun _ => ⟨A11, c11, by rw [hnl]; rfl, HLF.out⟩, fun h => absurd rfl h⟩, bTrans HB.out HB5.out⟩
  · have g0 : (er != 0) = true := by simp [he]
    have HNZ := Lib.hid he
    clear he
    go_enter Tryd.func14, Tryd.ntmps14
    go_wp2_with fail
    refine HO.out.mono ?_
    rintro e w1 ⟨⟨hk, _⟩, hb1⟩
    obtain rfl := hk HNZ.out
    have HB1 := Lib.hid hb1
    clear hk hb1
    go_wp2_with fail
    go_ret2
    exact ⟨⟨fun h => absurd h HNZ.out, fun _ => rfl⟩, bTrans HB.out (bTrans HB1.out (bAlloc (Below.refl _ _) _))⟩
end Go.Proofs.YthnojgdckkdcgaaDoor

namespace Go.Proofs.YthnojgdckkdcgaaDoor
open Go.RowKit Go.Sort Go.Shelf
end Go.Proofs.YthnojgdckkdcgaaDoor

namespace Go.Proofs.YthnojgdckkdcgaaDoor
open Go.RowKit Go.Sort Go.Shelf
/-- whether two pairs of numbers are equal (a Bool that the walk does not open) -/
def sameT (a b a' b' : Int) : Bool := decide (a = a' ∧ b = b')
theorem eqlT (w : World) (a b a' b' : Int) : (binOp .eql 51 (.agg #[.int .i64 a, .int .i64 b]) (.agg #[.int .i64 a', .int .i64 b'])).run Tryd.prog w = .ok (.bool (sameT a b a' b')) w := by
  by_cases h1 : a = a'
  · by_cases h2 : b = b'
    · subst h1 h2; simp [go_sem, sameT]
    · have : ¬ b = b' := h2
      simp [go_sem, sameT, h2, this]
  · have : ¬ a = a' := h1
    simp [go_sem, sameT, h1, this]
theorem neqT (w : World) (a b a' b' : Int) : (binOp .neq 51 (.agg #[.int .i64 a, .int .i64 b]) (.agg #[.int .i64 a', .int .i64 b'])).run Tryd.prog w = .ok (.bool (!sameT a b a' b')) w := by
  by_cases h1 : a = a'
  · by_cases h2 : b = b'
    · subst h1 h2; simp [go_sem, sameT]
    · have : ¬ b = b' := h2
      simp [go_sem, sameT, h2, this]
  · have : ¬ a = a' := h1
    simp [go_sem, sameT, h1, this]
attribute [go_sem ↓] eqlT neqT
end Go.Proofs.YthnojgdckkdcgaaDoor

namespace Go.Proofs.YthnojgdckkdcgaaDoor
open Go.RowKit Go.Sort
end Go.Proofs.YthnojgdckkdcgaaDoor

namespace Go.Proofs.YthnojgdckkdcgaaDoor
open Go.RowKit Go.Sort
end Go.Proofs.YthnojgdckkdcgaaDoor

namespace Go.Proofs.YthnojgdckkdcgaaDoor
open Go.RowKit Go.Sort
end Go.Proofs.YthnojgdckkdcgaaDoor

namespace Go.Proofs.YthnojgdckkdcgaaDoor
open Go.RowKit Go.Sort
end Go.Proofs.YthnojgdckkdcgaaDoor

namespace Go.Proofs.YthnojgdckkdcgaaDoor
open Go.RowKit Go.Sort
end Go.Proofs.YthnojgdckkdcgaaDoor

namespace Go.Proofs.YthnojgdckkdcgaaDoor
open Go.RowKit Go.Sort
end Go.Proofs.YthnojgdckkdcgaaDoor

namespace Go.Proofs.YthnojgdckkdcgaaDoor
open Go.RowKit Go.Sort
end Go.Proofs.YthnojgdckkdcgaaDoor

namespace Go.Proofs.YthnojgdckkdcgaaDoor
open Go.RowKit Go.Sort
end Go.Proofs.YthnojgdckkdcgaaDoor

