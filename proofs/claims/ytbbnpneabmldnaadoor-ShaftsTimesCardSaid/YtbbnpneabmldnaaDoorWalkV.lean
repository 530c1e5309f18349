/- Walk: best, with the comparison by rings; what its stops are. -/
import Derived.Test.YtbbnpneabmldnaaDoorWalkU
namespace Go.Proofs.YtbbnpneabmldnaaDoor
open Go.RowKit Go.Sort
theorem infoInt : (Tryd.prog.info? 3).map (fun i => (i.zero, i.size, i.bytes)) = some (some (.int .i64 0), 1, 8) := by kernel_rfl
def intL (g : Nat → Int) : Nat → List Value
  | 0 => []
  | n + 1 => intL g n ++ [.int .i64 (g n)]
theorem intL_len (g : Nat → Int) (n : Nat) : (intL g n).length = n := by
  induction n with
  | zero => rfl
  | succ n ih => simp [intL, ih]
theorem intL_get (g : Nat → Int) {n i : Nat} (h : i < n) : (intL g n)[i]? = some (.int .i64 (g i)) := by
  induction n with
  | zero => omega
  | succ n ih =>
    simp only [intL]
    rcases Nat.lt_or_ge i n with h1 | h1
    · rw [List.getElem?_append_left (by rw [intL_len]; exact h1)]; exact ih h1
    · obtain rfl : i = n := by omega
      rw [List.getElem?_append_right (by rw [intL_len]; exact Nat.le_refl _), intL_len]; simp
theorem intL_congr {g g' : Nat → Int} {n : Nat} (h : ∀ i, i < n → g i = g' i) : intL g n = intL g' n := by
  induction n with
  | zero => rfl
  | succ n ih => simp only [intL, ih (fun i hi => h i (by omega)), h n (by omega)]
theorem intsAt_own {w : World} {base n : Nat} {e : TypeId} {v : Value} {g : Nat → Int} (h : w.ownsRow base e 1 v n (intL g n)) : ∃ A c, v = .slice A n c ∧ IntsAt w A n g ∧ ∀ p, A = some p → base ≤ p.block := by
  rcases id h.2 with ⟨rfl, rfl⟩ | ⟨b, cap, cur, rfl, hb, _⟩
  · exact ⟨none, 0, rfl, .inl rfl, fun p h => nomatch h⟩
  · refine ⟨_, cap, rfl, ?_⟩
    have hlt := h.lt b rfl
    refine ⟨.inr ⟨b, 0, rfl, hlt.2, fun i hi => ?_⟩, fun p h => by injection h with h; subst h; exact hb⟩
    have := h.cells (g := b) rfl i _ (intL_get g hi)
    rwa [show (⟨b, 0, none⟩ : Addr).add i = ⟨b, 0 + i, none⟩ from by unfold Addr.add; split <;> simp_all] at this
theorem IntsAt.other {w : World} {A : Option Addr} {n : Nat} {g : Nat → Int} (h : IntsAt w A n g) {p : Addr} (hp : ∀ q, A = some q → q.block ≠ p.block) (v : Value) : IntsAt (w.setCell p v) A n g := by
  rcases h with h | ⟨b, o, rfl, hlt, hc⟩
  · exact .inl h
  · exact .inr ⟨b, o, rfl, by simpa [World.setCell] using hlt, fun i hi => (World.cell?_setCell_other _ _ _ _ (fun e => hp _ rfl (by rw [e]))).trans (hc i hi)⟩
theorem waysOf_next {S : Sh} (lt : Way → Way → Bool) : ∀ k d, d ≤ S.nf → 0 < (S.waysOf lt k d).next → (d : Int) < (S.waysOf lt k d).next ∧ (S.waysOf lt k d).next ≤ S.nf
  | 0, d, hd => by
    unfold Sh.waysOf
    split <;> simp [noWay]
  | k + 1, d, hd => by
    have ih := waysOf_next lt k d hd
    obtain ⟨b0, b1⟩ := S.falls_bd hd
    have key : ∀ m, d + m ≤ S.nf → 0 < (S.lookTo lt (S.waysOf lt k) d m).next → (d : Int) < (S.lookTo lt (S.waysOf lt k) d m).next ∧ (S.lookTo lt (S.waysOf lt k) d m).next ≤ S.nf := by
      intro m
      induction m with
      | zero => exact fun _ => ih
      | succ m im =>
        intro hm
        have im := im (by omega)
        simp only [Sh.lookTo, Sh.look]
        split
        · exact im
        · split
          · intro _; simp only [Sh.wayTo]; omega
          · exact im
    show 0 < (S.moreWays lt (S.waysOf lt k) d).next → (d : Int) < (S.moreWays lt (S.waysOf lt k) d).next ∧ (S.moreWays lt (S.waysOf lt k) d).next ≤ S.nf
    unfold Sh.moreWays
    split
    · exact key _ (by omega)
    · exact ih
/-- stops that follow the ways from depth 0 on -/
structure ChainTo (f : Nat → Way) (m : Nat) (g : Nat → Int) : Prop where
  step : ∀ i, i < m → g i = (f (stopAt g i)).next
  pos : ∀ i, i < m → 0 < g i
theorem stopAt_congr {g g' : Nat → Int} {m : Nat} (h : ∀ i, i < m → g i = g' i) : stopAt g m = stopAt g' m := by
  cases m with
  | zero => rfl
  | succ m => simp only [stopAt, h m (by omega)]
theorem ChainTo.more {f : Nat → Way} {m : Nat} {g : Nat → Int} (h : ChainTo f m g) (h0 : 0 < (f (stopAt g m)).next) : ChainTo f (m + 1) (fun i => if i = m then (f (stopAt g m)).next else g i) := by
  have hc : ∀ i, i < m → g i = (fun i => if i = m then (f (stopAt g m)).next else g i) i := fun i hi => by simp [show i ≠ m from by omega]
  refine ⟨fun i hi => ?_, fun i hi => ?_⟩
  · rw [← stopAt_congr (g := g) (g' := fun i => if i = m then (f (stopAt g m)).next else g i) (m := i) (fun j hj => hc j (by omega))]
    by_cases e : i = m
    · subst e; simp
    · simp only [if_neg e]; exact h.step i (by omega)
  · by_cases e : i = m
    · subst e; simpa using h0
    · simp only [if_neg e]; exact h.pos i (by omega)
/-- what best hands back -/
def Bested (w w' : World) (f : Nat → Way) (n : Nat) (e : Ending) : Prop :=
  Below w.heap.size w w' ∧ ((f 0 = noWay ∧ e = .returned (.tuple #[.agg #[.int .i64 (-1), .int .i64 0, .int .i64 0], .slice none 0 0, .bool false])) ∨
    (f 0 ≠ noWay ∧ ∃ A m c g, e = .returned (.tuple #[.agg #[.int .i64 (f 0).rings, .int .i64 (f 0).pence, .int .i64 (f 0).next], .slice A m c, .bool true]) ∧ m ≤ n ∧ ChainTo f m g ∧ ¬ 0 < (f (stopAt g m)).next ∧ IntsAt w' A m g ∧ ∀ p, A = some p → w.heap.size ≤ p.block))
set_option maxHeartbeats 8000000 in
set_option maxRecDepth 100000 in
theorem best_fewer (Ar Af : Option Addr) (cr cf : Nat) (S : Sh) (w : World) (ok : S.Ok) (hS : ShAt w Ar Af S) (hN : NoneAt w) (M : Nat) (hM : M ≤ 12) :
    Calls Tryd.prog 77 #[.agg #[.slice Ar S.nr cr, .slice Af S.nf cf, .int .i64 S.deep, .int .i64 S.haul, .int .i64 S.rest], .func (.func 79) #[] #[], .int .i64 M] w fun e w' => Bested w w' (S.waysOf ltR (min M S.nf)) S.nf e := by
  have hb0 := bAlloc (bAlloc (Below.refl w.heap.size w) (.cells #[.slice Ar S.nr cr, .slice Af S.nf cf, .int .i64 S.deep, .int .i64 S.haul, .int .i64 S.rest] 75)) (.cells #[.int .i64 0, .int .i64 0, .int .i64 0] 84)
  have HS := Lib.hid (hS.mono hb0)
  have HN := Lib.hid (hN.mono hb0)
  have HB := Lib.hid hb0
  obtain ⟨n0, n1, n2, n3⟩ := hN
  clear hS hb0
  have hnf := ok.nf
  have HNX := Lib.hid (waysOf_next (S := S) ltR (min M S.nf))
  generalize hf : S.waysOf ltR (min M S.nf) = f at HNX
  have HF := Lib.hid hf
  clear hf
  obtain ⟨i0, hi, iz0, iz1, iz2⟩ := info_parts infoInt
  by_cases hno : f 0 = noWay
  all_goals
    have HNO := Lib.hid hno
    clear hno
    go_enter Tryd.func77, Tryd.ntmps77
    go_wp2_with (go_at_call 90; refine (ways_fewer _ _ _ _ S _ ok HS.out HN.out M hM).mono ?_; rintro e w1 ⟨g1, c1, rfl, hg1, hW1, hb1⟩; rw [HF.out] at hW1; obtain ⟨bc1, bf1⟩ := bcell hb1; have hz1 := hb1.size; simp only [World.size_alloc] at hz1; have hy1 : w.heap.size + 1 < w1.heap.size := (by omega))
    have hglt := hW1.lt
    have k0 := hW1.c0 0 (by omega)
    have k1 := hW1.c1 0 (by omega)
    have k2 := hW1.c2 0 (by omega)
    have ho1 : 0 < w1.heap.size := (by omega)
    simp only [Nat.zero_mul, Nat.zero_add] at k0 k1 k2
    have HW1 := Lib.hid hW1
    have HB1 := Lib.hid hb1
    clear hW1 hb1
  · have hs := sameWay_t _ HNO.out
    rw [HNO.out] at hs k0 k1 k2
    simp only [noWay] at hs k0 k1 k2
    refine wp_region_quiet_below (by kernel_rfl) (by kernel_rfl) ?_
    repeat (go_big_quiet_step ((fail)))
    refine wpQuiet_nil ?_
    intro w2 hw2
    have hb2 := below_of_regrown hw2
    clear hw2
    obtain ⟨bc2, bf2⟩ := bcell hb2
    have hz2 := hb2.size
    have hy2 : w.heap.size + 1 < w2.heap.size := by omega
    have ho2 : 0 < w2.heap.size := by omega
    go_wp2_with fail
    have hb1 := HB1.out
    exact bodyPost_ret (v := .tuple #[.agg #[.int .i64 (-1), .int .i64 0, .int .i64 0], .slice none 0 0, .bool false]) (by simp [results, Tryd.results77, go_sem, *]) rfl ⟨by (repeat (first | (with_reducible exact Below.refl _ _) | (with_reducible refine bAlloc ?_ _) | (with_reducible refine bDrew ?_) | (with_reducible refine bGrow ?_ _ _) | (with_reducible refine bSet ?_ ?_ _; (first | exact Nat.le_refl _ | exact Nat.le_add_right _ _ | (simp; omega))) | (with_reducible refine bTrans ?_ (by assumption)))), .inl ⟨HNO.out, rfl⟩⟩
  · have hs := sameWay_f _ HNO.out
    refine wp_region_quiet_below (by kernel_rfl) (by kernel_rfl) ?_
    repeat (go_big_quiet_step ((fail)))
    refine wpQuiet_nil ?_
    intro w2 hw2
    have hb2 := below_of_regrown hw2
    clear hw2
    go_wp2_with fail
    have HW2 := Lib.hid (HW1.out.mono hb2)
    have HB2 := Lib.hid (bTrans HB1.out hb2)
    have hz2 := hb2.size
    clear HW1 HB1 hb2 k0 k1 k2 hglt
    go_loopw [10, 11] (fun v i wr => ∃ m g, i = .int .i64 (stopAt g m : Nat) ∧ stopAt g m ≤ S.nf ∧ m ≤ stopAt g m ∧ ChainTo f m g ∧ wr.ownsRow w2.heap.size 3 1 v m (intL g m) ∧ Below w2.heap.size w2 wr) (fun _ i _ => S.nf - (intOf i).toNat)
    case atStart => exact ⟨0, fun _ => 0, rfl, Nat.zero_le _, Nat.le_refl _, ⟨fun i hi => by omega, fun i hi => by omega⟩, World.ownsRow_nil _ _ _ _, Below.refl _ _⟩
    case round =>
      obtain ⟨m, g, rfl, hm1, hm2, hch, hown, hB⟩ := hrel
      have HW3 := Lib.hid (HW2.out.mono hB)
      have k2 := HW3.out.c2 (stopAt g m) (by omega)
      have k0 := HW3.out.c0 0 (by omega)
      have k1 := HW3.out.c1 0 (by omega)
      have k3 := HW3.out.c2 0 (by omega)
      simp only [Nat.zero_mul, Nat.zero_add] at k0 k1 k3
      have hglt := HW3.out.lt
      have HC := Lib.hid hch
      have HO := Lib.hid hown
      have HB3 := Lib.hid hB
      clear hch hown
      have hz3 := hB.size
      obtain ⟨bc3, bf3⟩ := bcell (bTrans HB2.out hB)
      clear hB
      by_cases hpos : 0 < (f (stopAt g m)).next
      · obtain ⟨p0, p1⟩ := HNX.out (stopAt g m) hm1 hpos
        obtain ⟨nx, hnx⟩ : ∃ nx : Nat, (f (stopAt g m)).next = nx := ⟨((f (stopAt g m)).next).toNat, by omega⟩
        have HNXT := Lib.hid hnx
        rw [hnx] at k2 p0 p1 hpos
        clear hnx bc3 bf3
        go_wp2_with (at_builtin; refine wpList_append_own _ rfl _ _ 23 rfl w2.heap.size 3 i0 (.int .i64 0) 1 8 Tryd.underlying23 hi iz0 iz1 iz2 rfl (by decide) _ _ _ rfl (HO.out.alloc _) ⟨wr.heap.size, 0, none⟩ 1 1 [.int .i64 (nx : Int)] rfl rfl ?qc2 ?qc3 ?qc4 ?qc5 ?qc6 ?_)
        case qc2 =>
          intro j u hj
          match j, hj with
          | 0, hj => simp at hj; subst hj; simp [Addr.add]
        case qc3 => intro u hu; simp at hu; subst hu; rfl
        case qc4 => unfold maxLen; omega
        case qc5 => omega
        case qc6 => simp; omega
        intro v' w4 hown4 hgrow _
        have HB4 := Lib.hid (((HB3.out.alloc HB3.out.size _).grown hgrow (by simp; omega) (fun k hk => (HO.out.lt k hk).1)))
        have HW4 := Lib.hid (HW2.out.mono HB4.out)
        have k4 := HW4.out.c2 (stopAt g m) (by omega)
        rw [HNXT.out] at k4
        have HO4 := Lib.hid hown4
        clear hown4 hgrow k0 k1 k2 k3
        go_wp2_with fail
        go_roundw
        case rel =>
          have hc : ∀ i, i < m → (fun i => if i = m then (f (stopAt g m)).next else g i) i = g i := fun i hi => by simp [show i ≠ m from by omega]
          have hl : intL (fun i => if i = m then (f (stopAt g m)).next else g i) (m + 1) = intL g m ++ [.int .i64 (nx : Int)] := by
            simp only [intL]; rw [intL_congr hc]; simp [HNXT.out]
          have hs : stopAt (fun i => if i = m then (f (stopAt g m)).next else g i) (m + 1) = nx := by
            show (if m = m then (f (stopAt g m)).next else g m).toNat = nx
            rw [if_pos rfl, HNXT.out]; rfl
          refine ⟨m + 1, fun i => if i = m then (f (stopAt g m)).next else g i, ?_, ?_, ?_, HC.out.more (by rw [HNXT.out]; exact hpos), ?_, HB4.out⟩
          · rw [hs]
          · rw [hs]; omega
          · rw [hs]; omega
          · rw [hl]; exact HO4.out
        case measure => simp [intOf]; omega
      · go_wp2_with fail
        obtain ⟨A, c, hv, hI, hblk⟩ := intsAt_own HO.out
        subst hv
        have hb1 := bTrans (bTrans HB.out HB2.out) HB3.out
        have HII := Lib.hid hI
        have hoth : ∀ q, A = some q → q.block ≠ w.heap.size + 1 := fun q hq => by have := hblk q hq; omega
        have HOT := Lib.hid hoth
        have HBK := Lib.hid (fun p (hp : A = some p) => (show w.heap.size ≤ p.block from by have := hblk p hp; omega))
        clear hI hblk hoth
        refine bodyPost_ret (v := .tuple #[.agg #[.int .i64 (f 0).rings, .int .i64 (f 0).pence, .int .i64 (f 0).next], .slice A m c, .bool true]) (by simp [results, Tryd.results77, go_sem, *]) rfl ⟨by (repeat (first | (with_reducible exact Below.refl _ _) | (with_reducible refine bAlloc ?_ _) | (with_reducible refine bDrew ?_) | (with_reducible refine bGrow ?_ _ _) | (with_reducible refine bSet ?_ ?_ _; (first | exact Nat.le_refl _ | exact Nat.le_add_right _ _ | (simp; omega))) | (with_reducible refine bTrans ?_ (by assumption)))), .inr ⟨HNO.out, A, m, c, g, rfl, by omega, HC.out, by omega, ?_, HBK.out⟩⟩
        exact ((HII.out.other HOT.out _).other HOT.out _).other HOT.out _
end Go.Proofs.YtbbnpneabmldnaaDoor
