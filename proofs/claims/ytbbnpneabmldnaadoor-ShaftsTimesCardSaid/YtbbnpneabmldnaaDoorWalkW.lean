/- Walk: best, with the comparison by pence. (Made from the walk with the comparison by rings: the comparison's name turned.) -/
import Derived.Test.YtbbnpneabmldnaaDoorWalkV
namespace Go.Proofs.YtbbnpneabmldnaaDoor
open Go.RowKit Go.Sort
set_option maxHeartbeats 8000000 in
set_option maxRecDepth 100000 in
theorem best_cheaper (Ar Af : Option Addr) (cr cf : Nat) (S : Sh) (w : World) (ok : S.Ok) (hS : ShAt w Ar Af S) (hN : NoneAt w) (M : Nat) (hM : M ≤ 12) :
    Calls Tryd.prog 77 #[.agg #[.slice Ar S.nr cr, .slice Af S.nf cf, .int .i64 S.deep, .int .i64 S.haul, .int .i64 S.rest], .func (.func 74) #[] #[], .int .i64 M] w fun e w' => Bested w w' (S.waysOf ltP (min M S.nf)) S.nf e := by
  have hb0 := bAlloc (bAlloc (Below.refl w.heap.size w) (.cells #[.slice Ar S.nr cr, .slice Af S.nf cf, .int .i64 S.deep, .int .i64 S.haul, .int .i64 S.rest] 75)) (.cells #[.int .i64 0, .int .i64 0, .int .i64 0] 84)
  have HS := Lib.hid (hS.mono hb0)
  have HN := Lib.hid (hN.mono hb0)
  have HB := Lib.hid hb0
  obtain ⟨n0, n1, n2, n3⟩ := hN
  clear hS hb0
  have hnf := ok.nf
  have HNX := Lib.hid (waysOf_next (S := S) ltP (min M S.nf))
  generalize hf : S.waysOf ltP (min M S.nf) = f at HNX
  have HF := Lib.hid hf
  clear hf
  obtain ⟨i0, hi, iz0, iz1, iz2⟩ := info_parts infoInt
  by_cases hno : f 0 = noWay
  all_goals
    have HNO := Lib.hid hno
    clear hno
    go_enter Tryd.func77, Tryd.ntmps77
    go_wp2_with (go_at_call 90; refine (ways_cheaper _ _ _ _ S _ ok HS.out HN.out M hM).mono ?_; rintro e w1 ⟨g1, c1, rfl, hg1, hW1, hb1⟩; rw [HF.out] at hW1; obtain ⟨bc1, bf1⟩ := bcell hb1; have hz1 := hb1.size; simp only [World.size_alloc] at hz1; have hy1 : w.heap.size + 1 < w1.heap.size := (by omega))
    have hglt := hW1.lt
    have k0 := hW1.c0 0 (by omega)
    have k1 := hW1.c1 0 (by omega)
    have k2 := hW1.c2 0 (by omega)
    have ho1 : 0 < w1.heap.size := (by omega)
    simp only [Nat.zero_mul, Nat.zero_add] at k0 k1 k2
    have HW1 := Lib.hid hW1
    have HB1 := Lib.hid hb1
    clear hW1 hb1
  · have hs := sameWay_t _ HNO.out
    rw [HNO.out] at hs k0 k1 k2
    simp only [noWay] at hs k0 k1 k2
    refine wp_region_quiet_below (by kernel_rfl) (by kernel_rfl) ?_
    repeat (go_big_quiet_step ((fail)))
    refine wpQuiet_nil ?_
    intro w2 hw2
    have hb2 := below_of_regrown hw2
    clear hw2
    obtain ⟨bc2, bf2⟩ := bcell hb2
    have hz2 := hb2.size
    have hy2 : w.heap.size + 1 < w2.heap.size := by omega
    have ho2 : 0 < w2.heap.size := by omega
    go_wp2_with fail
    have hb1 := HB1.out
    exact bodyPost_ret (v := .tuple #[.agg #[.int .i64 (-1), .int .i64 0, .int .i64 0], .slice none 0 0, .bool false]) (by simp [results, Tryd.results77, go_sem, *]) rfl ⟨by (repeat (first | (with_reducible exact Below.refl _ _) | (with_reducible refine bAlloc ?_ _) | (with_reducible refine bDrew ?_) | (with_reducible refine bGrow ?_ _ _) | (with_reducible refine bSet ?_ ?_ _; (first | exact Nat.le_refl _ | exact Nat.le_add_right _ _ | (simp; omega))) | (with_reducible refine bTrans ?_ (by assumption)))), .inl ⟨HNO.out, rfl⟩⟩
  · have hs := sameWay_f _ HNO.out
    refine wp_region_quiet_below (by kernel_rfl) (by kernel_rfl) ?_
    repeat (go_big_quiet_step ((fail)))
    refine wpQuiet_nil ?_
    intro w2 hw2
    have hb2 := below_of_regrown hw2
    clear hw2
    go_wp2_with fail
    have HW2 := Lib.hid (HW1.out.mono hb2)
    have HB2 := Lib.hid (bTrans HB1.out hb2)
    have hz2 := hb2.size
    clear HW1 HB1 hb2 k0 k1 k2 hglt
    go_loopw [10, 11] (fun v i wr => ∃ m g, i = .int .i64 (stopAt g m : Nat) ∧ stopAt g m ≤ S.nf ∧ m ≤ stopAt g m ∧ ChainTo f m g ∧ wr.ownsRow w2.heap.size 3 1 v m (intL g m) ∧ Below w2.heap.size w2 wr) (fun _ i _ => S.nf - (intOf i).toNat)
    case atStart => exact ⟨0, fun _ => 0, rfl, Nat.zero_le _, Nat.le_refl _, ⟨fun i hi => by omega, fun i hi => by omega⟩, World.ownsRow_nil _ _ _ _, Below.refl _ _⟩
    case round =>
      obtain ⟨m, g, rfl, hm1, hm2, hch, hown, hB⟩ := hrel
      have HW3 := Lib.hid (HW2.out.mono hB)
      have k2 := HW3.out.c2 (stopAt g m) (by omega)
      have k0 := HW3.out.c0 0 (by omega)
      have k1 := HW3.out.c1 0 (by omega)
      have k3 := HW3.out.c2 0 (by omega)
      simp only [Nat.zero_mul, Nat.zero_add] at k0 k1 k3
      have hglt := HW3.out.lt
      have HC := Lib.hid hch
      have HO := Lib.hid hown
      have HB3 := Lib.hid hB
      clear hch hown
      have hz3 := hB.size
      obtain ⟨bc3, bf3⟩ := bcell (bTrans HB2.out hB)
      clear hB
      by_cases hpos : 0 < (f (stopAt g m)).next
      · obtain ⟨p0, p1⟩ := HNX.out (stopAt g m) hm1 hpos
        obtain ⟨nx, hnx⟩ : ∃ nx : Nat, (f (stopAt g m)).next = nx := ⟨((f (stopAt g m)).next).toNat, by omega⟩
        have HNXT := Lib.hid hnx
        rw [hnx] at k2 p0 p1 hpos
        clear hnx bc3 bf3
        go_wp2_with (at_builtin; refine wpList_append_own _ rfl _ _ 23 rfl w2.heap.size 3 i0 (.int .i64 0) 1 8 Tryd.underlying23 hi iz0 iz1 iz2 rfl (by decide) _ _ _ rfl (HO.out.alloc _) ⟨wr.heap.size, 0, none⟩ 1 1 [.int .i64 (nx : Int)] rfl rfl ?qc2 ?qc3 ?qc4 ?qc5 ?qc6 ?_)
        case qc2 =>
          intro j u hj
          match j, hj with
          | 0, hj => simp at hj; subst hj; simp [Addr.add]
        case qc3 => intro u hu; simp at hu; subst hu; rfl
        case qc4 => unfold maxLen; omega
        case qc5 => omega
        case qc6 => simp; omega
        intro v' w4 hown4 hgrow _
        have HB4 := Lib.hid (((HB3.out.alloc HB3.out.size _).grown hgrow (by simp; omega) (fun k hk => (HO.out.lt k hk).1)))
        have HW4 := Lib.hid (HW2.out.mono HB4.out)
        have k4 := HW4.out.c2 (stopAt g m) (by omega)
        rw [HNXT.out] at k4
        have HO4 := Lib.hid hown4
        clear hown4 hgrow k0 k1 k2 k3
        go_wp2_with fail
        go_roundw
        case rel =>
          have hc : ∀ i, i < m → (fun i => if i = m then (f (stopAt g m)).next else g i) i = g i := fun i hi => by simp [show i ≠ m from by omega]
          have hl : intL (fun i => if i = m then (f (stopAt g m)).next else g i) (m + 1) = intL g m ++ [.int .i64 (nx : Int)] := by
            simp only [intL]; rw [intL_congr hc]; simp [HNXT.out]
          have hs : stopAt (fun i => if i = m then (f (stopAt g m)).next else g i) (m + 1) = nx := by
            show (if m = m then (f (stopAt g m)).next else g m).toNat = nx
            rw [if_pos rfl, HNXT.out]; rfl
          refine ⟨m + 1, fun i => if i = m then (f (stopAt g m)).next else g i, ?_, ?_, ?_, HC.out.more (by rw [HNXT.out]; exact hpos), ?_, HB4.out⟩
          · rw [hs]
          · rw [hs]; omega
          · rw [hs]; omega
          · rw [hl]; exact HO4.out
        case measure => simp [intOf]; omega
      · go_wp2_with fail
        obtain ⟨A, c, hv, hI, hblk⟩ := intsAt_own HO.out
        subst hv
        have hb1 := bTrans (bTrans HB.out HB2.out) HB3.out
        have HII := Lib.hid hI
        have hoth : ∀ q, A = some q → q.block ≠ w.heap.size + 1 := fun q hq => by have := hblk q hq; omega
        have HOT := Lib.hid hoth
        have HBK := Lib.hid (fun p (hp : A = some p) => (show w.heap.size ≤ p.block from by have := hblk p hp; omega))
        clear hI hblk hoth
        refine bodyPost_ret (v := .tuple #[.agg #[.int .i64 (f 0).rings, .int .i64 (f 0).pence, .int .i64 (f 0).next], .slice A m c, .bool true]) (by simp [results, Tryd.results77, go_sem, *]) rfl ⟨by (repeat (first | (with_reducible exact Below.refl _ _) | (with_reducible refine bAlloc ?_ _) | (with_reducible refine bDrew ?_) | (with_reducible refine bGrow ?_ _ _) | (with_reducible refine bSet ?_ ?_ _; (first | exact Nat.le_refl _ | exact Nat.le_add_right _ _ | (simp; omega))) | (with_reducible refine bTrans ?_ (by assumption)))), .inr ⟨HNO.out, A, m, c, g, rfl, by omega, HC.out, by omega, ?_, HBK.out⟩⟩
        exact ((HII.out.other HOT.out _).other HOT.out _).other HOT.out _
end Go.Proofs.YtbbnpneabmldnaaDoor
