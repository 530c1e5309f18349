/- Parts joined: what all claims of this seat need. -/
import Derived.Test.YtifkjnmnflhnoaaGreatDoorNBL
set_option linter.unusedSimpArgs false
set_option linter.unusedVariables false
namespace Go.Proofs.YtifkjnmnflhnoaaGreatDoor
open Go.RowKit Go.Sort
/-- each fine of the one book can be that of the same number in the other book, and no other -/
structure Dg (b : Bk) (n : Nat) (D : Int) (U : Nat → Int × Int) : Prop where
  ok : b.Ok
  n1 : b.n1 = n
  n2 : b.n2 = n
  n4 : n ≤ 4
  isB : ∀ i j, i < n → j < n → okB b i j = (i == j)
  who : ∀ i, i < n → (b.e2 i).who = (i : Int)
  days : ∀ i, i < n → dayD (b.e1 i) (b.e2 i) = D
  d0 : 0 ≤ D ∧ D ≤ 99
  cord : ∀ i, i < n → CordOk b.base b.pl (comF (b.e1 i) (b.e2 i))
  ends : ∀ i, i < n → endsF b.base (comF (b.e1 i) (b.e2 i)) b.pl = U i
  bd : ∀ i, i < n → 0 ≤ (U i).1 ∧ (U i).1 ≤ 9999 ∧ 0 ≤ (U i).2 ∧ (U i).2 ≤ 9999
theorem Dg.heads {b : Bk} {n : Nat} {D : Int} {U : Nat → Int × Int} (h : Dg b n D U) : Heads b n := fun xs hx => by
  rw [h.n1, h.n2] at hx
  obtain ⟨x, e, hl⟩ := bigM_diag h.n4 h.isB hx
  exact ⟨x, [], e, by rw [hl, diag_len]⟩
theorem MAt.mono {w w' : World} {x : Mt} (h : MAt w x) (hb : Below w.heap.size w w') : MAt w' x := ⟨h.nil, h.row.mono hb, h.cap⟩
theorem RowAt.prs {w : World} {A : Option Addr} {n : Nat} (h : RowAt w A (fpE.cells (diag n))) : PrsAt w A n (fun i => ⟨i, i⟩) := by
  rcases Nat.eq_zero_or_pos n with h0 | h0
  · exact .inl h0
  rcases h with h | ⟨b, o, rfl, hlt, hc⟩
  · have := congrArg List.length h
    rw [Elem.cells_len fpG, diag_len] at this
    simp [fpE] at this
    omega
  · refine .inr ⟨b, o, rfl, hlt, fun i hi => ⟨?_, ?_⟩⟩
    · exact hc (i * 2) _ (Elem.cells_get fpG (l := diag n) (j := i) 0 (diag_get hi) (by decide))
    · exact hc (i * 2 + 1) _ (Elem.cells_get fpG (l := diag n) (j := i) 1 (diag_get hi) (by decide))
/-- the one largest matching of such books -/
structure LgAt (w : World) (base g c0 : Nat) (A : Option Addr) (c n : Nat) : Prop where
  own : OwnE mtE w base (.slice (some ⟨g, 0, none⟩) 1 c0) [⟨A, c, diag n⟩]
  mat : MAt w ⟨A, c, diag n⟩
theorem LgAt.mono {w w' : World} {base g c0 : Nat} {A : Option Addr} {c n : Nat} (h : LgAt w base g c0 A c n) (hb : Below w.heap.size w w') : LgAt w' base g c0 A c n := ⟨h.own.mono hb, h.mat.mono hb⟩
theorem LgAt.cell {w : World} {base g c0 : Nat} {A : Option Addr} {c n : Nat} (h : LgAt w base g c0 A c n) : g < w.heap.size ∧ w.cell? ⟨g, 0, none⟩ = some (.slice A n c) := by
  obtain ⟨g', c', e, hg, hc⟩ := mt_head h.own
  simp only [Value.slice.injEq, Option.some.injEq, Addr.mk.injEq, and_true] at e
  obtain ⟨rfl, _⟩ := e
  rw [diag_len] at hc
  exact ⟨hg, hc⟩
theorem LgAt.prs {w : World} {base g c0 : Nat} {A : Option Addr} {c n : Nat} (h : LgAt w base g c0 A c n) : PrsAt w A n (fun i => ⟨i, i⟩) := h.mat.row.row.prs
theorem PrsAt.get {w : World} {A : Option Addr} {n : Nat} {f : Nat → FPr} (h : PrsAt w A n f) {i : Nat} (hi : i < n) : ∃ b o, A = some ⟨b, o, none⟩ ∧ b < w.heap.size ∧ w.cell? ⟨b, o + i * 2, none⟩ = some (.int .i64 ((f i).one : Int)) ∧ w.cell? ⟨b, o + i * 2 + 1, none⟩ = some (.int .i64 ((f i).oth : Int)) := by
  rcases h with h | ⟨b, o, e, hl, hc⟩
  · omega
  · exact ⟨b, o, e, hl, hc i hi⟩
theorem largestD_any (b : Bk) (n : Nat) (D : Int) (U : Nat → Int × Int) (w : World) (h : Dg b n D U) (hT : BkAt w b) :
    Calls Tryz.prog 36 #[.agg #[.int .i64 b.base, .int .i64 (b.pl : Int), .int .i64 b.pers, .int .i64 b.late, .slice b.a1 b.n1 b.c1, .slice b.a2 b.n2 b.c2]] w fun e w' => (∃ g c0 A c, e = .returned (.slice (some ⟨g, 0, none⟩) 1 c0) ∧ LgAt w' w.heap.size g c0 A c n) ∧ Below w.heap.size w w' := by
  refine (largest_any b w h.ok hT).mono ?_
  rintro e w' ⟨⟨V, xs, rfl, hO, hM, hX⟩, hb⟩
  rw [h.n1, h.n2] at hX
  obtain ⟨x, e, hl⟩ := bigM_diag h.n4 h.isB hX
  rw [e] at hO hM
  obtain ⟨A, c, l⟩ := x
  subst hl
  obtain ⟨g, c0, rfl, _, _⟩ := mt_head hO
  exact ⟨⟨g, c0, A, c, rfl, hO, hM _ (by simp)⟩, hb⟩
def mulD (D : Int) (j : Nat) : Int := (j : Int) * D
theorem mulD_step {D : Int} {j : Nat} (hD : 0 ≤ D ∧ D ≤ 99) (hj : j < 4) : IntKind.i64.wrap (mulD D j + D) = mulD D (j + 1) := by
  have e : mulD D (j + 1) = mulD D j + D := by unfold mulD; rw [Int.natCast_succ, Int.add_mul, Int.one_mul]
  rw [e]
  refine IntWalk.i64_in _ ?_
  have h0 : 0 ≤ mulD D j := Int.mul_nonneg (by omega) hD.1
  have h1 : mulD D j ≤ 4 * 99 := Int.mul_le_mul (by omega) hD.2 hD.1 (by omega)
  omega
set_option maxHeartbeats 4000000 in
set_option maxRecDepth 100000 in
theorem daysM_any (b : Bk) (n : Nat) (D : Int) (U : Nat → Int × Int) (w : World) (h : Dg b n D U) (hT : BkAt w b) :
    Calls Tryz.prog 15 #[.agg #[.int .i64 b.base, .int .i64 (b.pl : Int), .int .i64 b.pers, .int .i64 b.late, .slice b.a1 b.n1 b.c1, .slice b.a2 b.n2 b.c2]] w fun e w' => e = .returned (.tuple #[.int .i64 (mulD D n), .int .i64 0]) ∧ Below w.heap.size w w' := by
  have HD0 := Lib.hid (Below.refl w.heap.size w)
  have HDG := Lib.hid h
  have HT0 := Lib.hid hT
  clear h hT
  go_enter Tryz.func15, Tryz.ntmps15
  go_wp2_with fail
  refine (checkF_any b _ HDG.out.ok (HT0.out.mono (bAlloc (Below.refl _ _) (.cells #[.int .i64 b.base, .int .i64 (b.pl : Int), .int .i64 b.pers, .int .i64 b.late, .slice b.a1 b.n1 b.c1, .slice b.a2 b.n2 b.c2] 41)))).mono ?_
  rintro e w1 ⟨rfl, hb⟩
  have hB1 : Below w.heap.size w w1 := bTrans (bAlloc (Below.refl _ _) (.cells #[.int .i64 b.base, .int .i64 (b.pl : Int), .int .i64 b.pers, .int .i64 b.late, .slice b.a1 b.n1 b.c1, .slice b.a2 b.n2 b.c2] 41)) hb
  have HD1 := Lib.hid (bTrans HD0.out hB1)
  have HT1 := Lib.hid (HT0.out.mono hB1)
  have B1 := Lib.hid (show TBox w1 w.heap.size 41 #[.int .i64 b.base, .int .i64 (b.pl : Int), .int .i64 b.pers, .int .i64 b.late, .slice b.a1 b.n1 b.c1, .slice b.a2 b.n2 b.c2] from by have := ((TBox.new w #[.int .i64 b.base, .int .i64 (b.pl : Int), .int .i64 b.pers, .int .i64 b.late, .slice b.a1 b.n1 b.c1, .slice b.a2 b.n2 b.c2] 41).mono (Below.refl _ _)).mono hb; simpa using this)
  clear hb hB1 HD0 HT0
  obtain ⟨B_0, B_1, B_2, B_3, B_4, B_5, B_l⟩ := B1.out.c6
  go_wp2_with fail
  refine (largestD_any b n D U _ HDG.out HT1.out).mono ?_
  rintro e w2 ⟨⟨g0, c0, A, c, rfl, hL⟩, hb⟩
  have hB2 : Below w1.heap.size w1 w2 := bTrans (Below.refl _ _) hb
  have HD2 := Lib.hid (bTrans HD1.out hB2)
  have HT2 := Lib.hid (HT1.out.mono hB2)
  have HL2 := Lib.hid (hL)
  have B2 := Lib.hid (B1.out.mono hB2)
  clear hb hB2 HD1 HT1 B1 B_0 B_1 B_2 B_3 B_4 B_5 B_l
  obtain ⟨B_0, B_1, B_2, B_3, B_4, B_5, B_l⟩ := B2.out.c6
  clear hL
  go_wp2_with fail
  clear B_0 B_1 B_2 B_3 B_4 B_5 B_l
  go_loopw [5, 19] (fun s5 s19 wr => ∃ k : Nat, k ≤ 1 ∧ s19 = .int .i64 (k : Int) ∧ (∃ dl : Int, .int .i64 dl = s5 ∧ (k = 0 → dl = -1) ∧ (k = 1 → dl = mulD D n)) ∧ Below w2.heap.size w2 wr) (fun _ s19 _ => 1 - (intOf s19).toNat)
  case atStart => exact ⟨0, Nat.zero_le _, rfl, ⟨_, rfl, fun _ => rfl, fun h => by cases h⟩, Below.refl _ _⟩
  case round =>
    obtain ⟨k, hk_k, rfl, hv, hb⟩ := hrel
    have HBk := Lib.hid hb
    have HV := Lib.hid hv
    clear hv
    have hB3 : Below w2.heap.size w2 wr := bTrans (Below.refl _ _) hb
    have HD3 := Lib.hid (bTrans HD2.out hB3)
    have HT3 := Lib.hid (HT2.out.mono hB3)
    have HL3 := Lib.hid (HL2.out.mono hB3)
    have HU_k3 := Lib.hid ((show Upto w2 wr from HBk.out))
    have B3 := Lib.hid (B2.out.mono hB3)
    clear hb hB3
    obtain ⟨B_0, B_1, B_2, B_3, B_4, B_5, B_l⟩ := B3.out.c6
    obtain ⟨dl, e5, hd0, hd1⟩ := HV.out
    subst e5
    have HD9 := Lib.hid hd1
    by_cases hlt_k : k < 1
    case pos =>
      have h1_k : (k : Int) < (1 : Int) := by omega
      have h0_k : (0 : Int) ≤ (k : Int) := by omega
      obtain rfl := hd0 (by omega)
      clear hd1 HV
      obtain ⟨hg0, gc0⟩ := HL3.out.cell
      have gk : wr.cell? ⟨g0, k, none⟩ = some (.slice A n c) := by rw [show k = 0 by omega]; exact gc0
      clear gc0
      go_wp2_with fail
      clear gk hg0
      obtain ⟨wl64, hwl⟩ : ∃ y, y = wr := ⟨_, rfl⟩
      subst hwl
      clear B_0 B_1 B_2 B_3 B_4 B_5 B_l
      go_loopw [8, 25] (fun s8 s25 wr => ∃ j : Nat, j ≤ n ∧ s8 = .int .i64 (mulD D j) ∧ s25 = .int .i64 (j : Int) ∧ Below wl64.heap.size wl64 wr) (fun _ s25 _ => n - (intOf s25).toNat)
      case atStart => exact ⟨0, Nat.zero_le _, by unfold mulD; simp, rfl, Below.refl _ _⟩
      case round =>
        obtain ⟨j, hk_j, rfl, rfl, hb⟩ := hrel
        have HBj := Lib.hid hb
        have hB4 : Below wl64.heap.size wl64 wr := bTrans (Below.refl _ _) hb
        have HD4 := Lib.hid (bTrans HD3.out hB4)
        have HT4 := Lib.hid (HT3.out.mono hB4)
        have HL4 := Lib.hid (HL3.out.mono hB4)
        have HU_k4 := Lib.hid (HU_k3.out.mono hB4)
        have HU_j4 := Lib.hid ((show Upto wl64 wr from HBj.out))
        have B4 := Lib.hid (B3.out.mono hB4)
        clear hb hB4
        obtain ⟨B_0, B_1, B_2, B_3, B_4, B_5, B_l⟩ := B4.out.c6
        by_cases hlt_j : j < n
        case pos =>
          have h1_j : (j : Int) < (n : Int) := by omega
          have h0_j : (0 : Int) ≤ (j : Int) := by omega
          have hb_j : j < 100 := by have := HDG.out.n4; omega
          obtain ⟨pb, po, hA, hpl, p0, p1⟩ := HL4.out.prs.get hlt_j
          have i1 : (j : Int) < (b.n1 : Int) := by rw [HDG.out.n1]; exact h1_j
          have j1 : (j : Int) < (b.n2 : Int) := by rw [HDG.out.n2]; exact h1_j
          have n1' : j < b.n1 := by omega
          have n2' : j < b.n2 := by omega
          obtain ⟨x1, o1, ha1, hl1, c0, c1, c2⟩ := HT4.out.ones.get n1'
          obtain ⟨x2, o2, ha2, hl2, d0, d1, d2⟩ := HT4.out.others.get n2'
          subst hA
          have e2 := mulD_step (j := j) HDG.out.d0 (by have := HDG.out.n4; omega)
          simp only at p0 p1
          go_wp2_with fail
          have HC1 := Lib.hid (fun (w' : World) (hb : Below (wr.alloc (.cells #[.int .i64 (j : Int), .int .i64 (j : Int)] 89)).heap.size (wr.alloc (.cells #[.int .i64 (j : Int), .int .i64 (j : Int)] 89)) w') => (by have h := daysF_any b.pl b.pl (b.e1 j) (b.e2 j) w' (HDG.out.ok.e1 j (by rw [HDG.out.n1]; exact hlt_j)).day (HDG.out.ok.e2 j (by rw [HDG.out.n2]; exact hlt_j)).day; rw [HDG.out.days j hlt_j] at h; exact h : Calls Tryz.prog 37 #[.agg #[.int .i64 (b.e1 j).day, .int .i64 (b.e1 j).who, .slice (b.e1 j).ca b.pl (b.e1 j).cc], .agg #[.int .i64 (b.e2 j).day, .int .i64 (b.e2 j).who, .slice (b.e2 j).ca b.pl (b.e2 j).cc]] w' fun e w'' => e = .returned (.int .i64 D) ∧ Below w'.heap.size w' w''))
          refine wp_region_quiet_below (by kernel_rfl) (by kernel_rfl) ?_
          repeat (go_big_quiet_step ((((go_at_call 37; with_reducible exact Calls.regrown_of (HC1.out _ (below_regrown _ _ _)))))))
          refine wpQuiet_nil ?_
          intro w5 hw9
          have hb := below_of_regrown hw9
          clear hw9
          clear HC1 c0 c1 c2 d0 d1 d2 p0 p1 hpl hl1 hl2
          have hB5 : Below wr.heap.size wr w5 := bTrans (bAlloc (Below.refl _ _) (.cells #[.int .i64 (j : Int), .int .i64 (j : Int)] 89)) hb
          have HD5 := Lib.hid (bTrans HD4.out hB5)
          have HT5 := Lib.hid (HT4.out.mono hB5)
          have HL5 := Lib.hid (HL4.out.mono hB5)
          have HU_k5 := Lib.hid (HU_k4.out.mono hB5)
          have HU_j5 := Lib.hid (HU_j4.out.mono hB5)
          have B5 := Lib.hid (B4.out.mono hB5)
          have P5 := Lib.hid (show TBox w5 wr.heap.size 89 #[.int .i64 (j : Int), .int .i64 (j : Int)] from by have := ((TBox.new wr #[.int .i64 (j : Int), .int .i64 (j : Int)] 89).mono (Below.refl _ _)).mono hb; simpa using this)
          clear hb hB5 HD4 HT4 HL4 HU_k4 HU_j4 B4 B_0 B_1 B_2 B_3 B_4 B_5 B_l
          obtain ⟨B_0, B_1, B_2, B_3, B_4, B_5, B_l⟩ := B5.out.c6
          obtain ⟨P_0, P_1, P_l⟩ := P5.out.c2
          go_wp2_with fail
          go_roundw
          case rel =>
            first
            | exact ⟨j + 1, by omega, rfl, by go_num, HU_j5.out⟩
            | ((repeat apply Exists.intro)
               refine ⟨⟨j + 1, by omega, rfl, ?_, HU_j5.out⟩, rfl⟩
               go_num)
          case measure => simp [intOf]; omega
        have he_j : j = n := by omega
        subst he_j
        go_wp2_with fail
        go_roundw
        case rel =>
          first
          | exact ⟨k + 1, by omega, by go_num, ⟨_, rfl, fun h => by omega, fun _ => rfl⟩, HU_k4.out⟩
          | ((repeat apply Exists.intro)
             refine ⟨⟨k + 1, by omega, ?_, ⟨_, rfl, fun h => by omega, fun _ => rfl⟩, HU_k4.out⟩, rfl⟩
             go_num)
        case measure => simp [intOf]; omega
    have he_k : k = 1 := by omega
    obtain rfl := HD9.out he_k
    subst he_k
    go_wp2_with fail
    go_ret2
    exact ⟨rfl, HD3.out⟩
end Go.Proofs.YtifkjnmnflhnoaaGreatDoor

namespace Go.Proofs.YtifkjnmnflhnoaaGreatDoor
open Go.RowKit Go.Sort
set_option maxHeartbeats 2000000 in
set_option maxRecDepth 100000 in
theorem index_pair_at (g : Nat → FPr) (A : Option Addr) (n c f : Nat) (cs : Array Value) (p : Nat → Bool) (k : Nat) (hk : k < n) (hp : p k = true) (hq : ∀ i, i < k → p i = false) (w : World) (hn : n ≤ 9223372036854775807) (hr : PrsAt w A n g) (hcf : Enters f)
    (hf : ∀ i, i < n → ∀ w', Below w.heap.size w w' → Calls Tryz.prog f (#[.agg #[.int .i64 ((g i).one : Int), .int .i64 ((g i).oth : Int)]] ++ cs) w' fun e w'' => e = .returned (.bool (p i)) ∧ Below w'.heap.size w' w'') :
    Calls Tryz.prog 64 #[.slice A n c, .func (.func f) #[] cs] w fun e w' => e = .returned (.int .i64 (k : Int)) ∧ Below w.heap.size w w' := by
  have HC := Lib.hid hr
  have HF := Lib.hid hf
  have HP := Lib.hid hp
  have HQ := Lib.hid hq
  unfold Enters at hcf
  clear hr hf hp hq
  go_enter Tryz.func64, Tryz.ntmps64
  go_wp2_with fail
  go_loopw [5, 8] (fun _ i wr => ∃ j : Nat, j ≤ k ∧ i = .int .i64 j ∧ Below w.heap.size w wr) (fun _ i _ => n - (intOf i).toNat)
  case atStart => exact ⟨0, Nat.zero_le _, rfl, Below.refl _ _⟩
  case round =>
    obtain ⟨j, hj, rfl, hbel⟩ := hrel
    have HL := Lib.hid hbel
    have hlt : j < n := by omega
    rcases HC.out with h0 | ⟨b, o, hA, hb, hcell⟩
    · omega
    obtain ⟨d0, d1⟩ := hcell j hlt
    have HK := Lib.hid hlt
    obtain ⟨bk, hbk⟩ : ∃ bk, p j = bk := ⟨_, rfl⟩
    have HCC := Lib.hid (hbk ▸ HF.out j HK.out _ hbel : Calls Tryz.prog f (#[.agg #[.int .i64 ((g j).one : Int), .int .i64 ((g j).oth : Int)]] ++ cs) wr fun e w'' => e = .returned (.bool bk) ∧ Below wr.heap.size wr w'')
    have HBK := Lib.hid hbk
    clear hbk hcell
    subst hA
    obtain ⟨bc, bf⟩ := bcell hbel
    go_wp2_with fail
    refine HCC.out.mono ?_
    rintro e w4 ⟨rfl, hb4⟩
    have HL4 := Lib.hid (bTrans HL.out hb4)
    clear hb4 hbel
    cases bk
    · go_wp2_with fail
      go_roundw
      case rel =>
        have hj1 : j + 1 ≤ k := by
          have h1 := HBK.out
          rcases Nat.lt_or_ge j k with h | h
          · omega
          · have e : j = k := by omega
            rw [e, HP.out] at h1
            cases h1
        exact ⟨j + 1, hj1, by go_num, HL4.out⟩
      case measure => simp [intOf]; omega
    · go_wp2_with fail
      go_ret
      have : j = k := by
        rcases Nat.lt_or_ge j k with h | h
        · have h1 := HQ.out j h
          rw [HBK.out] at h1
          cases h1
        · omega
      subst this
      exact ⟨rfl, HL4.out⟩
set_option maxHeartbeats 4000000 in
set_option maxRecDepth 100000 in
theorem eq2_any (ib : Nat) (i k : Nat) (w : World) (hk : TBox w ib 3 #[.int .i64 (k : Int)]) :
    Calls Tryz.prog 63 #[.agg #[.int .i64 (i : Int), .int .i64 (i : Int)], .pointer (some ⟨ib, 0, none⟩)] w fun e w' => e = .returned (.bool (((i : Int) == (k : Int)))) ∧ Below w.heap.size w w' := by
  have HD0 := Lib.hid (Below.refl w.heap.size w)
  go_enter Tryz.func63, Tryz.ntmps63
  have I0 := Lib.hid hk
  clear hk
  obtain ⟨I_0, I_l⟩ := I0.out.c1
  go_wp2_with fail
  go_ret
  exact ⟨rfl, (bTrans HD0.out (bAlloc (Below.refl _ _) (.cells #[.int .i64 (i : Int), .int .i64 (i : Int)] 89)))⟩
set_option maxHeartbeats 4000000 in
set_option maxRecDepth 100000 in
theorem eq3_any (ib : Nat) (i k : Nat) (w : World) (hk : TBox w ib 3 #[.int .i64 (k : Int)]) :
    Calls Tryz.prog 65 #[.agg #[.int .i64 (i : Int), .int .i64 (i : Int)], .pointer (some ⟨ib, 0, none⟩)] w fun e w' => e = .returned (.bool (((i : Int) == (k : Int)))) ∧ Below w.heap.size w w' := by
  have HD0 := Lib.hid (Below.refl w.heap.size w)
  go_enter Tryz.func65, Tryz.ntmps65
  have I0 := Lib.hid hk
  clear hk
  obtain ⟨I_0, I_l⟩ := I0.out.c1
  go_wp2_with fail
  go_ret
  exact ⟨rfl, (bTrans HD0.out (bAlloc (Below.refl _ _) (.cells #[.int .i64 (i : Int), .int .i64 (i : Int)] 89)))⟩
theorem add_fin {w w2 : World} {ob : Nat} {a c : Value} (a' c' : Value) (hb : Below w.heap.size w w2) (hO : TBox w2 ob 43 #[a, c]) : TBox ((w2.setCell ⟨ob, 0, none⟩ a').setCell ⟨ob, 1, none⟩ c') ob 43 #[a', c'] ∧ w.grownBy ((w2.setCell ⟨ob, 0, none⟩ a').setCell ⟨ob, 1, none⟩ c') (some ob) := by
  constructor
  · have h := (hO.set 0 a').set 1 c'
    simpa using h
  · have hg : ∀ (x : World) (i : Nat) (v : Value), x.grownBy (x.setCell ⟨ob, i, none⟩ v) (some ob) := fun x i v => ⟨rfl, rfl, rfl, by simp [World.setCell], fun k _ hne => Below.heap_setCell _ _ _ _ (fun e => hne (by rw [e]))⟩
    exact World.grownBy.trans (World.grownBy.trans ⟨hb.os, hb.tape, hb.output, hb.size, fun k hk _ => hb.block k hk⟩ (hg _ _ _)) (hg _ _ _)
theorem grown_of {w w' : World} (hb : Below w.heap.size w w') (row : Option Nat) : w.grownBy w' row := ⟨hb.os, hb.tape, hb.output, hb.size, fun k hk _ => hb.block k hk⟩
set_option maxHeartbeats 4000000 in
set_option maxRecDepth 100000 in
theorem add_yes (pb fb ob : Nat) (b : Bk) (y : Ent) (C : Crd) (who a c lo hi : Int) (w : World) (hw : y.who = who) (ok : b.Ok) (h : CordOk b.base b.pl C.sp) (hC : SpsAt w C.ca b.pl C.sp) (he : endsF b.base C.sp b.pl = (lo, hi)) (hr : -100000 ≤ a + lo ∧ a + lo ≤ 100000 ∧ -100000 ≤ c + hi ∧ c + hi ≤ 100000) (hk1 : TBox w pb 3 #[.int .i64 who]) (hk2 : TBox w fb 41 #[.int .i64 b.base, .int .i64 (b.pl : Int), .int .i64 b.pers, .int .i64 b.late, .slice b.a1 b.n1 b.c1, .slice b.a2 b.n2 b.c2]) (hk3 : TBox w ob 43 #[.int .i64 a, .int .i64 c]) :
    Calls Tryz.prog 61 #[.agg #[.int .i64 y.day, .int .i64 y.who, .slice y.ca b.pl y.cc], .slice C.ca b.pl C.cc, .pointer (some ⟨pb, 0, none⟩), .pointer (some ⟨fb, 0, none⟩), .pointer (some ⟨ob, 0, none⟩)] w fun e w' => e = .returned (.tuple #[]) ∧ TBox w' ob 43 #[.int .i64 (a + lo), .int .i64 (c + hi)] ∧ w.grownBy w' (some ob) := by
  have hwb : (y.who == who) = true := by simp [hw]
  clear hw
  have e1 : IntKind.i64.wrap (a + lo) = a + lo := IntWalk.i64_in _ (by omega)
  have e2 : IntKind.i64.wrap (c + hi) = c + hi := IntWalk.i64_in _ (by omega)
  clear hr
  have HD0 := Lib.hid (Below.refl w.heap.size w)
  have HOK := Lib.hid ok
  have HH := Lib.hid h
  have HC0 := Lib.hid hC
  have HE := Lib.hid he
  clear ok h hC he
  go_enter Tryz.func61, Tryz.ntmps61
  have I0 := Lib.hid hk1
  clear hk1
  obtain ⟨I_0, I_l⟩ := I0.out.c1
  have B0 := Lib.hid hk2
  clear hk2
  obtain ⟨B_0, B_1, B_2, B_3, B_4, B_5, B_l⟩ := B0.out.c6
  have O0 := Lib.hid hk3
  clear hk3
  obtain ⟨O_0, O_1, O_l⟩ := O0.out.c2
  go_wp2_with fail
  refine (pence_any b C lo hi _ HOK.out HH.out (HC0.out.mono (bAlloc (Below.refl _ _) (.cells #[.int .i64 y.day, .int .i64 y.who, .slice y.ca b.pl y.cc] 48))) HE.out).mono ?_
  rintro e w1 ⟨rfl, hb⟩
  have hB1 : Below w.heap.size w w1 := bTrans (bAlloc (Below.refl _ _) (.cells #[.int .i64 y.day, .int .i64 y.who, .slice y.ca b.pl y.cc] 48)) hb
  have HD1 := Lib.hid (bTrans HD0.out hB1)
  have HC1 := Lib.hid (HC0.out.mono hB1)
  have I1 := Lib.hid (I0.out.mono hB1)
  have B1 := Lib.hid (B0.out.mono hB1)
  have O1 := Lib.hid (O0.out.mono hB1)
  have Y1 := Lib.hid (show TBox w1 w.heap.size 48 #[.int .i64 y.day, .int .i64 y.who, .slice y.ca b.pl y.cc] from by have := ((TBox.new w #[.int .i64 y.day, .int .i64 y.who, .slice y.ca b.pl y.cc] 48).mono (Below.refl _ _)).mono hb; simpa using this)
  clear hb hB1 HD0 HC0 I0 I_0 I_l B0 B_0 B_1 B_2 B_3 B_4 B_5 B_l O0 O_0 O_1 O_l
  obtain ⟨I_0, I_l⟩ := I1.out.c1
  obtain ⟨B_0, B_1, B_2, B_3, B_4, B_5, B_l⟩ := B1.out.c6
  obtain ⟨O_0, O_1, O_l⟩ := O1.out.c2
  obtain ⟨Y_0, Y_1, Y_2, Y_l⟩ := Y1.out.c3
  have of0 := O1.out.frozen 0
  have of1 := O1.out.frozen 1
  have FIN := Lib.hid (add_fin (w := w) (w2 := w1) (.int .i64 (a + lo)) (.int .i64 (c + hi)) HD1.out O1.out)
  go_wp2_with fail
  refine bodyPost_end (results_none rfl _ _ _) rfl ⟨rfl, ?_⟩
  exact ⟨FIN.out.1.mono (bAlloc (Below.refl _ _) _), World.grownBy.trans FIN.out.2 (World.grownBy_alloc _ _ _)⟩
set_option maxHeartbeats 4000000 in
set_option maxRecDepth 100000 in
theorem add_no (pb fb ob : Nat) (b : Bk) (y : Ent) (C : Crd) (who a c : Int) (w : World) (hw : y.who ≠ who) (hk1 : TBox w pb 3 #[.int .i64 who]) (hk2 : TBox w fb 41 #[.int .i64 b.base, .int .i64 (b.pl : Int), .int .i64 b.pers, .int .i64 b.late, .slice b.a1 b.n1 b.c1, .slice b.a2 b.n2 b.c2]) (hk3 : TBox w ob 43 #[.int .i64 a, .int .i64 c]) :
    Calls Tryz.prog 61 #[.agg #[.int .i64 y.day, .int .i64 y.who, .slice y.ca b.pl y.cc], .slice C.ca b.pl C.cc, .pointer (some ⟨pb, 0, none⟩), .pointer (some ⟨fb, 0, none⟩), .pointer (some ⟨ob, 0, none⟩)] w fun e w' => e = .returned (.tuple #[]) ∧ TBox w' ob 43 #[.int .i64 a, .int .i64 c] ∧ w.grownBy w' (some ob) := by
  have hwb : (y.who == who) = false := by simp [hw]
  clear hw
  have HD0 := Lib.hid (Below.refl w.heap.size w)
  go_enter Tryz.func61, Tryz.ntmps61
  have I0 := Lib.hid hk1
  clear hk1
  obtain ⟨I_0, I_l⟩ := I0.out.c1
  have B0 := Lib.hid hk2
  clear hk2
  obtain ⟨B_0, B_1, B_2, B_3, B_4, B_5, B_l⟩ := B0.out.c6
  have O0 := Lib.hid hk3
  clear hk3
  obtain ⟨O_0, O_1, O_l⟩ := O0.out.c2
  go_wp2_with fail
  refine bodyPost_end (results_none rfl _ _ _) rfl ⟨rfl, ?_⟩
  exact ⟨O0.out.mono (bAlloc (Below.refl _ _) (.cells #[.int .i64 y.day, .int .i64 y.who, .slice y.ca b.pl y.cc] 48)), grown_of (bTrans HD0.out (bAlloc (Below.refl _ _) (.cells #[.int .i64 y.day, .int .i64 y.who, .slice y.ca b.pl y.cc] 48))) _⟩
set_option maxHeartbeats 4000000 in
set_option maxRecDepth 100000 in
theorem owed_any (A : Option Addr) (cm : Nat) (b : Bk) (n : Nat) (D : Int) (U : Nat → Int × Int) (to : Nat) (w : World) (h : Dg b n D U) (hT : BkAt w b) (hP : PrsAt w A n (fun i => ⟨i, i⟩)) (hto : to < n) :
    Calls Tryz.prog 43 #[.slice A n cm, .agg #[.int .i64 b.base, .int .i64 (b.pl : Int), .int .i64 b.pers, .int .i64 b.late, .slice b.a1 b.n1 b.c1, .slice b.a2 b.n2 b.c2], .int .i64 (to : Int)] w fun e w' => e = .returned (.agg #[.int .i64 (U to).1, .int .i64 (U to).2]) ∧ Below w.heap.size w w' := by
  have HTW := Lib.hid hT
  have HPW := Lib.hid hP
  have HD0 := Lib.hid (Below.refl w.heap.size w)
  have HDG := Lib.hid h
  have HT0 := Lib.hid hT
  have HP0 := Lib.hid hP
  have HTO := Lib.hid hto
  clear h hT hP hto
  go_enter Tryz.func43, Tryz.ntmps43
  go_wp2_with fail
  go_loopw [20] (fun s20 wr => ∃ k : Nat, k ≤ n ∧ s20 = .int .i64 (k : Int) ∧ Below ((((w.alloc (.cells #[.int .i64 b.base, .int .i64 (b.pl : Int), .int .i64 b.pers, .int .i64 b.late, .slice b.a1 b.n1 b.c1, .slice b.a2 b.n2 b.c2] 41)).alloc (.cells #[.int .i64 (to : Int)] 3)).alloc (.cells #[.int .i64 0, .int .i64 0] 43)).alloc (.cells #[.int .i64 0, .int .i64 0] 43)).heap.size ((((w.alloc (.cells #[.int .i64 b.base, .int .i64 (b.pl : Int), .int .i64 b.pers, .int .i64 b.late, .slice b.a1 b.n1 b.c1, .slice b.a2 b.n2 b.c2] 41)).alloc (.cells #[.int .i64 (to : Int)] 3)).alloc (.cells #[.int .i64 0, .int .i64 0] 43)).alloc (.cells #[.int .i64 0, .int .i64 0] 43)) wr) (fun s20 _ => n - (intOf s20).toNat)
  case atStart => exact ⟨0, Nat.zero_le _, rfl, Below.refl _ _⟩
  case round =>
    obtain ⟨k, hk_k, rfl, hb⟩ := hrel
    have HBk := Lib.hid hb
    have hB1 : Below w.heap.size w wr := bTrans (bAlloc (bAlloc (bAlloc (bAlloc (Below.refl _ _) (.cells #[.int .i64 b.base, .int .i64 (b.pl : Int), .int .i64 b.pers, .int .i64 b.late, .slice b.a1 b.n1 b.c1, .slice b.a2 b.n2 b.c2] 41)) (.cells #[.int .i64 (to : Int)] 3)) (.cells #[.int .i64 0, .int .i64 0] 43)) (.cells #[.int .i64 0, .int .i64 0] 43)) hb
    have HD1 := Lib.hid (bTrans HD0.out hB1)
    have HT1 := Lib.hid (HT0.out.mono hB1)
    have HP1 := Lib.hid (HP0.out.mono hB1)
    have HU_k1 := Lib.hid ((show Upto ((((w.alloc (.cells #[.int .i64 b.base, .int .i64 (b.pl : Int), .int .i64 b.pers, .int .i64 b.late, .slice b.a1 b.n1 b.c1, .slice b.a2 b.n2 b.c2] 41)).alloc (.cells #[.int .i64 (to : Int)] 3)).alloc (.cells #[.int .i64 0, .int .i64 0] 43)).alloc (.cells #[.int .i64 0, .int .i64 0] 43)) wr from HBk.out))
    have B1 := Lib.hid (show TBox wr w.heap.size 41 #[.int .i64 b.base, .int .i64 (b.pl : Int), .int .i64 b.pers, .int .i64 b.late, .slice b.a1 b.n1 b.c1, .slice b.a2 b.n2 b.c2] from by have := ((TBox.new w #[.int .i64 b.base, .int .i64 (b.pl : Int), .int .i64 b.pers, .int .i64 b.late, .slice b.a1 b.n1 b.c1, .slice b.a2 b.n2 b.c2] 41).mono (bAlloc (bAlloc (bAlloc (Below.refl _ _) (.cells #[.int .i64 (to : Int)] 3)) (.cells #[.int .i64 0, .int .i64 0] 43)) (.cells #[.int .i64 0, .int .i64 0] 43))).mono hb; simpa using this)
    have I1 := Lib.hid (show TBox wr (w.heap.size + 1) 3 #[.int .i64 (to : Int)] from by have := ((TBox.new (w.alloc (.cells #[.int .i64 b.base, .int .i64 (b.pl : Int), .int .i64 b.pers, .int .i64 b.late, .slice b.a1 b.n1 b.c1, .slice b.a2 b.n2 b.c2] 41)) #[.int .i64 (to : Int)] 3).mono (bAlloc (bAlloc (Below.refl _ _) (.cells #[.int .i64 0, .int .i64 0] 43)) (.cells #[.int .i64 0, .int .i64 0] 43))).mono hb; simpa using this)
    have R1 := Lib.hid (show TBox wr (w.heap.size + 1 + 1) 43 #[.int .i64 0, .int .i64 0] from by have := ((TBox.new ((w.alloc (.cells #[.int .i64 b.base, .int .i64 (b.pl : Int), .int .i64 b.pers, .int .i64 b.late, .slice b.a1 b.n1 b.c1, .slice b.a2 b.n2 b.c2] 41)).alloc (.cells #[.int .i64 (to : Int)] 3)) #[.int .i64 0, .int .i64 0] 43).mono (bAlloc (Below.refl _ _) (.cells #[.int .i64 0, .int .i64 0] 43))).mono hb; simpa using this)
    have O1 := Lib.hid (show TBox wr (w.heap.size + 1 + 1 + 1) 43 #[.int .i64 0, .int .i64 0] from by have := ((TBox.new (((w.alloc (.cells #[.int .i64 b.base, .int .i64 (b.pl : Int), .int .i64 b.pers, .int .i64 b.late, .slice b.a1 b.n1 b.c1, .slice b.a2 b.n2 b.c2] 41)).alloc (.cells #[.int .i64 (to : Int)] 3)).alloc (.cells #[.int .i64 0, .int .i64 0] 43)) #[.int .i64 0, .int .i64 0] 43).mono (Below.refl _ _)).mono hb; simpa using this)
    clear hb hB1
    obtain ⟨B_0, B_1, B_2, B_3, B_4, B_5, B_l⟩ := B1.out.c6
    obtain ⟨I_0, I_l⟩ := I1.out.c1
    obtain ⟨R_0, R_1, R_l⟩ := R1.out.c2
    obtain ⟨O_0, O_1, O_l⟩ := O1.out.c2
    by_cases hlt_k : k < n
    case pos =>
      have h1_k : (k : Int) < (n : Int) := by omega
      have h0_k : (0 : Int) ≤ (k : Int) := by omega
      have hb_k : k < 100 := by have := HDG.out.n4; omega
      have n1' : k < b.n1 := by rw [HDG.out.n1]; exact hlt_k
      have i1 : (k : Int) < (b.n1 : Int) := by omega
      obtain ⟨x1, o1, ha1, hl1, c0, c1, c2⟩ := HT1.out.ones.get n1'
      go_wp2_with fail
      have HK9 := Lib.hid (TBox.new wr #[.int .i64 (k : Int)] 3)
      have HKB := Lib.hid (HK9.out.mono (bAlloc (Below.refl _ _) (.cells #[.int .i64 (b.e1 k).day, .int .i64 (b.e1 k).who, .slice (b.e1 k).ca b.pl (b.e1 k).cc] 48)))
      refine (contains_pair (fun i => ⟨i, i⟩) A n cm 63 #[.pointer (some ⟨wr.heap.size, 0, none⟩)] (fun i => (i : Int) == (k : Int)) _ (by have := HDG.out.n4; omega) (HP1.out.mono (bAlloc (bAlloc (Below.refl _ _) (.cells #[.int .i64 (k : Int)] 3)) (.cells #[.int .i64 (b.e1 k).day, .int .i64 (b.e1 k).who, .slice (b.e1 k).ca b.pl (b.e1 k).cc] 48))) (enters_of Tryz.func63 (by kernel_rfl)) (fun i hi w2 hb2 => by have h := eq2_any wr.heap.size i k w2 (HKB.out.mono hb2); simpa using h)).mono ?_
      rintro e w2 ⟨rfl, hb⟩
      have HA1 := Lib.hid ha1
      clear ha1 c0 c1 c2 hl1
      simp only [← HA1.out]
      rw [anyB_hit (p := fun i : Nat => (i : Int) == (k : Int)) hlt_k (by simp)]
      have hB2 : Below wr.heap.size wr w2 := bTrans (bAlloc (bAlloc (Below.refl _ _) (.cells #[.int .i64 (k : Int)] 3)) (.cells #[.int .i64 (b.e1 k).day, .int .i64 (b.e1 k).who, .slice (b.e1 k).ca b.pl (b.e1 k).cc] 48)) hb
      have HD2 := Lib.hid (bTrans HD1.out hB2)
      have HT2 := Lib.hid (HT1.out.mono hB2)
      have HP2 := Lib.hid (HP1.out.mono hB2)
      have HU_k2 := Lib.hid (HU_k1.out.mono hB2)
      have B2 := Lib.hid (B1.out.mono hB2)
      have I2 := Lib.hid (I1.out.mono hB2)
      have R2 := Lib.hid (R1.out.mono hB2)
      have O2 := Lib.hid (O1.out.mono hB2)
      have K2 := Lib.hid (show TBox w2 wr.heap.size 3 #[.int .i64 (k : Int)] from by have := ((TBox.new wr #[.int .i64 (k : Int)] 3).mono (bAlloc (Below.refl _ _) (.cells #[.int .i64 (b.e1 k).day, .int .i64 (b.e1 k).who, .slice (b.e1 k).ca b.pl (b.e1 k).cc] 48))).mono hb; simpa using this)
      have E2 := Lib.hid (show TBox w2 (wr.heap.size + 1) 48 #[.int .i64 (b.e1 k).day, .int .i64 (b.e1 k).who, .slice (b.e1 k).ca b.pl (b.e1 k).cc] from by have := ((TBox.new (wr.alloc (.cells #[.int .i64 (k : Int)] 3)) #[.int .i64 (b.e1 k).day, .int .i64 (b.e1 k).who, .slice (b.e1 k).ca b.pl (b.e1 k).cc] 48).mono (Below.refl _ _)).mono hb; simpa using this)
      clear hb hB2 HD1 HT1 HP1 HU_k1 B1 B_0 B_1 B_2 B_3 B_4 B_5 B_l I1 I_0 I_l R1 R_0 R_1 R_l O1 O_0 O_1 O_l
      obtain ⟨B_0, B_1, B_2, B_3, B_4, B_5, B_l⟩ := B2.out.c6
      obtain ⟨I_0, I_l⟩ := I2.out.c1
      obtain ⟨R_0, R_1, R_l⟩ := R2.out.c2
      obtain ⟨O_0, O_1, O_l⟩ := O2.out.c2
      obtain ⟨K_0, K_l⟩ := K2.out.c1
      obtain ⟨E_0, E_1, E_2, E_l⟩ := E2.out.c3
      go_wp2_with fail
      go_roundw
      case rel =>
        first
        | exact ⟨k + 1, by omega, by go_num, HU_k2.out⟩
        | ((repeat apply Exists.intro)
           refine ⟨⟨k + 1, by omega, ?_, HU_k2.out⟩, rfl⟩
           go_num)
      case measure => simp [intOf]; omega
    have he_k : k = n := by omega
    have he9 := he_k.symm
    subst he9
    have hn1 : ¬ (n : Int) < (b.n1 : Int) := by rw [HDG.out.n1]; omega
    go_wp2_with fail
    clear B_0 B_1 B_2 B_3 B_4 B_5 B_l I_0 I_l R_0 R_1 R_l O_0 O_1 O_l
    obtain ⟨W, hW⟩ : ∃ y, y = wr := ⟨_, rfl⟩
    subst hW
    obtain ⟨ob, hob⟩ : ∃ y, y = (w.heap.size + 1 + 1 + 1) := ⟨_, rfl⟩
    obtain ⟨rb, hrb⟩ : ∃ y, y = (w.heap.size + 1 + 1) := ⟨_, rfl⟩
    obtain ⟨pb, hpb⟩ : ∃ y, y = (w.heap.size + 1) := ⟨_, rfl⟩
    obtain ⟨fb, hfb⟩ : ∃ y, y = w.heap.size := ⟨_, rfl⟩
    have HNE := Lib.hid (show fb ≠ ob ∧ pb ≠ ob ∧ rb ≠ ob ∧ w.heap.size ≤ ob ∧ w.heap.size ≤ rb by omega)
    have B9 := Lib.hid B1.out
    have I9 := Lib.hid I1.out
    have R9 := Lib.hid R1.out
    have O9 := Lib.hid O1.out
    rw [← hfb] at B9
    rw [← hpb] at I9
    rw [← hrb] at R9
    rw [← hob] at O9
    simp only [← hob]
    simp only [← hrb]
    simp only [← hpb]
    simp only [← hfb]
    have HD9 := Lib.hid HD1.out
    clear hob hrb hpb hfb
    go_loopw [38] (fun s38 wr => ∃ k : Nat, k ≤ n ∧ s38 = .int .i64 (k : Int) ∧ (∃ a c : Int, TBox wr ob 43 #[.int .i64 a, .int .i64 c] ∧ (k ≤ to → a = 0 ∧ c = 0) ∧ (to < k → a = (U to).1 ∧ c = (U to).2)) ∧ W.grownBy wr (some ob)) (fun s38 _ => n - (intOf s38).toNat)
    case atStart => exact ⟨0, Nat.zero_le _, rfl, ⟨0, 0, O9.out, fun _ => ⟨rfl, rfl⟩, fun h => by omega⟩, World.grownBy.refl _ _⟩
    case round =>
      obtain ⟨k, hk, rfl, ⟨a, c, hO, h0, h1⟩, hg⟩ := hrel
      have hB1 : Below w.heap.size w wr := HD9.out.grown hg HD9.out.size (fun q hq => by injection hq with hq; have := HNE.out; omega)
      have HD5 := Lib.hid hB1
      have HT5 := Lib.hid (HTW.out.mono hB1)
      have HP5 := Lib.hid (HPW.out.mono hB1)
      have HU5 := Lib.hid (show Upto wr wr from Below.refl _ _)
      have B5 := Lib.hid (B9.out.grown hg (by have := HNE.out; simp only [ne_eq, Option.some.injEq]; omega))
      have I5 := Lib.hid (I9.out.grown hg (by have := HNE.out; simp only [ne_eq, Option.some.injEq]; omega))
      have R5 := Lib.hid (R9.out.grown hg (by have := HNE.out; simp only [ne_eq, Option.some.injEq]; omega))
      have O5 := Lib.hid hO
      have HG := Lib.hid hg
      have HO0 := Lib.hid h0
      have HO1 := Lib.hid h1
      clear hO hB1 hg h0 h1
      obtain ⟨B_0, B_1, B_2, B_3, B_4, B_5, B_l⟩ := B5.out.c6
      obtain ⟨I_0, I_l⟩ := I5.out.c1
      obtain ⟨R_0, R_1, R_l⟩ := R5.out.c2
      obtain ⟨O_0, O_1, O_l⟩ := O5.out.c2
      by_cases hlt : k < n
      case pos =>
        have h1k : (k : Int) < (n : Int) := by omega
        have h0k : (0 : Int) ≤ (k : Int) := by omega
        have hnk : ¬ (k : Int) < 0 := by omega
        have hb_k : k < 100 := by have := HDG.out.n4; omega
        have n1' : k < b.n1 := by rw [HDG.out.n1]; exact hlt
        have n2' : k < b.n2 := by rw [HDG.out.n2]; exact hlt
        have i1 : (k : Int) < (b.n1 : Int) := by omega
        have j1 : (k : Int) < (b.n2 : Int) := by omega
        have HN1 := Lib.hid n1'
        have HN2 := Lib.hid n2'
        obtain ⟨x2, o2, ha2, hl2, d0, d1, d2⟩ := HT5.out.others.get n2'
        clear n1' n2'
        go_wp2_with fail
        have HK9 := Lib.hid (TBox.new wr #[.int .i64 (k : Int)] 3)
        have HKB := Lib.hid (HK9.out.mono (bAlloc (Below.refl _ _) (.cells #[.int .i64 (b.e2 k).day, .int .i64 (b.e2 k).who, .slice (b.e2 k).ca b.pl (b.e2 k).cc] 48)))
        refine (index_pair_at (fun i => ⟨i, i⟩) A n cm 65 #[.pointer (some ⟨wr.heap.size, 0, none⟩)] (fun i => (i : Int) == (k : Int)) k hlt (by simp) (fun i hi => by simp; omega) _ (by have := HDG.out.n4; omega) (HP5.out.mono (bAlloc (bAlloc (Below.refl _ _) (.cells #[.int .i64 (k : Int)] 3)) (.cells #[.int .i64 (b.e2 k).day, .int .i64 (b.e2 k).who, .slice (b.e2 k).ca b.pl (b.e2 k).cc] 48))) (enters_of Tryz.func65 (by kernel_rfl)) (fun i hi w2 hb2 => by have h := eq3_any wr.heap.size i k w2 (HKB.out.mono hb2); simpa using h)).mono ?_
        rintro e w6 ⟨rfl, hb⟩
        have HA2 := Lib.hid ha2
        clear ha2 d0 d1 d2 hl2
        simp only [← HA2.out]
        have hB6 : Below wr.heap.size wr w6 := bTrans (bAlloc (bAlloc (Below.refl _ _) (.cells #[.int .i64 (k : Int)] 3)) (.cells #[.int .i64 (b.e2 k).day, .int .i64 (b.e2 k).who, .slice (b.e2 k).ca b.pl (b.e2 k).cc] 48)) hb
        have HD6 := Lib.hid (bTrans HD5.out hB6)
        have HT6 := Lib.hid (HT5.out.mono hB6)
        have HP6 := Lib.hid (HP5.out.mono hB6)
        have HU6 := Lib.hid (HU5.out.mono hB6)
        have B6 := Lib.hid (B5.out.mono hB6)
        have I6 := Lib.hid (I5.out.mono hB6)
        have R6 := Lib.hid (R5.out.mono hB6)
        have O6 := Lib.hid (O5.out.mono hB6)
        have K6 := Lib.hid (show TBox w6 wr.heap.size 3 #[.int .i64 (k : Int)] from by have := ((TBox.new wr #[.int .i64 (k : Int)] 3).mono (bAlloc (Below.refl _ _) (.cells #[.int .i64 (b.e2 k).day, .int .i64 (b.e2 k).who, .slice (b.e2 k).ca b.pl (b.e2 k).cc] 48))).mono hb; simpa using this)
        have E6 := Lib.hid (show TBox w6 (wr.heap.size + 1) 48 #[.int .i64 (b.e2 k).day, .int .i64 (b.e2 k).who, .slice (b.e2 k).ca b.pl (b.e2 k).cc] from by have := ((TBox.new (wr.alloc (.cells #[.int .i64 (k : Int)] 3)) #[.int .i64 (b.e2 k).day, .int .i64 (b.e2 k).who, .slice (b.e2 k).ca b.pl (b.e2 k).cc] 48).mono (Below.refl _ _)).mono hb; simpa using this)
        clear hb hB6 HD5 HT5 HP5 HU5 B5 B_0 B_1 B_2 B_3 B_4 B_5 B_l I5 I_0 I_l R5 R_0 R_1 R_l O5 O_0 O_1 O_l
        obtain ⟨B_0, B_1, B_2, B_3, B_4, B_5, B_l⟩ := B6.out.c6
        obtain ⟨I_0, I_l⟩ := I6.out.c1
        obtain ⟨R_0, R_1, R_l⟩ := R6.out.c2
        obtain ⟨O_0, O_1, O_l⟩ := O6.out.c2
        obtain ⟨K_0, K_l⟩ := K6.out.c1
        obtain ⟨E_0, E_1, E_2, E_l⟩ := E6.out.c3
        clear HK9 HKB
        go_wp2_with fail
        obtain ⟨x1, o1, ha1, hl1, c0, c1, c2⟩ := HT6.out.ones.get HN1.out
        obtain ⟨pq, po, hA, hpl, p0, p1⟩ := HP6.out.get hlt
        have HLT := Lib.hid hlt
        subst hA
        simp only at p0 p1
        have HCO := Lib.hid (fun (w' : World) (hb : Below w6.heap.size w6 w') => common_any b.pl b.late (b.e1 k) (b.e2 k) w' HDG.out.ok.pl.2 (HDG.out.ok.e1 k HN1.out).day (HDG.out.ok.e2 k HN2.out).day (((HT6.out).mono hb).ones.sp HN1.out) (((HT6.out).mono hb).others.sp HN2.out))
        refine wp_region_call 12 (fun v w2 => CmOut w2 b.pl b.late (b.e1 k) (b.e2 k) v ∧ Below w6.heap.size w6 w2) (by kernel_rfl) (by decide +kernel) rfl ?_
        apply Exists.intro
        refine ⟨fun K hK => ?_, ?_, fun w1 hb1 K Q' hK => ?_, ?_⟩
        · skip
          repeat (first | (refine wpCalm_skip rfl ?_) | (refine wpCalm_step rfl (fun K hK => ?_); go_simp; (first | (refine hK _ ?_; clear hK K) | (apply Exists.intro; refine ⟨fun _ => ?_, hK _ ?_⟩; (fail); clear hK K))))
          refine wpCalm_nil ?_
          exact hK
        · rfl
        · go_simp
          refine (HCO.out w1 hb1).mono ?_
          rintro e w2 ⟨⟨v, rfl, ho⟩, hb2⟩
          exact hK v w2 ⟨ho, bTrans hb1 hb2⟩
        clear HCO
        rintro v w2 ⟨⟨A2, c2, rfl, hsp⟩, hb2⟩
        apply Exists.intro
        refine ⟨fun K hK => ?_, fun w7 hb3 => ?_⟩
        · skip
          repeat (first | (refine wpCalm_skip rfl ?_) | (refine wpCalm_step rfl (fun K hK => ?_); go_simp; (first | (refine hK _ ?_; clear hK K) | (apply Exists.intro; refine ⟨fun _ => ?_, hK _ ?_⟩; (fail); clear hK K))))
          refine wpCalm_nil ?_
          exact hK
        have hb := bTrans hb2 hb3
        have HS := Lib.hid (hsp.mono hb3)
        have HA1 := Lib.hid ha1
        clear hb2 hb3 hsp c0 c1 ha1 hl1 p0 p1 hpl
        simp only [← HA1.out]
        have hB7 : Below w6.heap.size w6 w7 := bTrans (Below.refl _ _) hb
        have HD7 := Lib.hid (bTrans HD6.out hB7)
        have HT7 := Lib.hid (HT6.out.mono hB7)
        have HP7 := Lib.hid (HP6.out.mono hB7)
        have HU7 := Lib.hid (HU6.out.mono hB7)
        have HSP7 := Lib.hid (HS.out)
        have B7 := Lib.hid (B6.out.mono hB7)
        have I7 := Lib.hid (I6.out.mono hB7)
        have R7 := Lib.hid (R6.out.mono hB7)
        have O7 := Lib.hid (O6.out.mono hB7)
        have K7 := Lib.hid (K6.out.mono hB7)
        have E7 := Lib.hid (E6.out.mono hB7)
        clear hb hB7 HD6 HT6 HP6 HU6 B6 B_0 B_1 B_2 B_3 B_4 B_5 B_l I6 I_0 I_l R6 R_0 R_1 R_l O6 O_0 O_1 O_l K6 K_0 K_l E6 E_0 E_1 E_2 E_l
        obtain ⟨B_0, B_1, B_2, B_3, B_4, B_5, B_l⟩ := B7.out.c6
        obtain ⟨I_0, I_l⟩ := I7.out.c1
        obtain ⟨R_0, R_1, R_l⟩ := R7.out.c2
        obtain ⟨O_0, O_1, O_l⟩ := O7.out.c2
        obtain ⟨K_0, K_l⟩ := K7.out.c1
        obtain ⟨E_0, E_1, E_2, E_l⟩ := E7.out.c3
        clear HS
        go_wp2_with fail
        by_cases hw : k = to
        case pos =>
          have HW := Lib.hid hw
          clear hw
          have hac := HO0.out (by have := HW.out; omega)
          have hbd := HDG.out.bd k HLT.out
          refine (add_yes pb fb ob b (b.e2 k) ⟨A2, c2, comF (b.e1 k) (b.e2 k)⟩ (to : Int) a c (U k).1 (U k).2 _ (by rw [HDG.out.who k HLT.out, HW.out]) HDG.out.ok (HDG.out.cord k HLT.out) HSP7.out (HDG.out.ends k HLT.out) (by omega) I7.out B7.out O7.out).mono ?_
          rintro e w8 ⟨rfl, hO8, hg8⟩
          have HO8 := Lib.hid hO8
          have HG8 := Lib.hid (World.grownBy.trans HG.out (World.grownBy.trans (grown_of HU7.out (some ob)) hg8))
          have HAC := Lib.hid (show a + (U k).1 = (U k).1 ∧ c + (U k).2 = (U k).2 by omega)
          clear hac hbd
          clear hO8 hg8
          clear B_0 B_1 B_2 B_3 B_4 B_5 B_l I_0 I_l R_0 R_1 R_l O_0 O_1 O_l K_0 K_l E_0 E_1 E_2 E_l
          go_wp2_with fail
          go_roundw
          case rel =>
            first
            | exact ⟨k + 1, HLT.out, by go_num, ⟨_, _, HO8.out, fun h => by have := HW.out; omega, fun _ => by rw [← HW.out]; exact HAC.out⟩, HG8.out⟩
            | ((repeat apply Exists.intro)
               refine ⟨⟨k + 1, HLT.out, ?_, ⟨_, _, HO8.out, fun h => by have := HW.out; omega, fun _ => by rw [← HW.out]; exact HAC.out⟩, HG8.out⟩, rfl⟩
               go_num)
          case measure => have := HLT.out; simp [intOf]; omega
        case neg =>
          refine (add_no pb fb ob b (b.e2 k) ⟨A2, c2, comF (b.e1 k) (b.e2 k)⟩ (to : Int) a c _ (by rw [HDG.out.who k HLT.out]; omega) I7.out B7.out O7.out).mono ?_
          rintro e w8 ⟨rfl, hO8, hg8⟩
          have HO8 := Lib.hid hO8
          have HG8 := Lib.hid (World.grownBy.trans HG.out (World.grownBy.trans (grown_of HU7.out (some ob)) hg8))
          clear hO8 hg8
          clear B_0 B_1 B_2 B_3 B_4 B_5 B_l I_0 I_l R_0 R_1 R_l O_0 O_1 O_l K_0 K_l E_0 E_1 E_2 E_l
          go_wp2_with fail
          go_roundw
          case rel =>
            first
            | exact ⟨k + 1, HLT.out, by go_num, ⟨_, _, HO8.out, fun h => HO0.out (by omega), fun h => HO1.out (by omega)⟩, HG8.out⟩
            | ((repeat apply Exists.intro)
               refine ⟨⟨k + 1, HLT.out, ?_, ⟨_, _, HO8.out, fun h => HO0.out (by omega), fun h => HO1.out (by omega)⟩, HG8.out⟩, rfl⟩
               go_num)
          case measure => have := HLT.out; simp [intOf]; omega
      have hn2 : ¬ (k : Int) < (b.n2 : Int) := by rw [HDG.out.n2]; omega
      obtain ⟨ea, ec⟩ := HO1.out (by have := HTO.out; omega)
      subst ea
      subst ec
      have rf0 := R5.out.frozen 0
      have rf1 := R5.out.frozen 1
      go_wp2_with fail
      refine bodyPost_ret (v := .agg #[.int .i64 (U to).1, .int .i64 (U to).2]) (by simp [results, Tryz.results43, go_sem, *]) rfl ⟨rfl, ?_⟩
      exact Below.setCell (p := ⟨rb, 1, none⟩) (Below.setCell (p := ⟨rb, 0, none⟩) HD5.out (by have := HNE.out; simp only; omega) _) (by have := HNE.out; simp only; omega) _
end Go.Proofs.YtifkjnmnflhnoaaGreatDoor

namespace Go.Proofs.YtifkjnmnflhnoaaGreatDoor
open Go.RowKit Go.Sort
theorem OwnE.kept {α : Type} {E : Elem α} {l : List TypeId} {W W' : World} {base : Nat} {V : Value} {xs : List α} (h : OwnE E W base V xs) (hk : Kept l W W') (ht : E.ty ∈ l) : OwnE E W' base V xs :=
  ⟨h.1, h.2.imp id (fun ⟨g, cap, cur, e, h2, h3, h4⟩ => ⟨g, cap, cur, e, h2, (hk.2 g _ _ _ h3 ht).trans h3, h4⟩)⟩
theorem LgAt.kept {W W' : World} {base g c0 : Nat} {A : Option Addr} {c n : Nat} (h : LgAt W base g c0 A c n) (hk : Kept [87, 89] W W') : LgAt W' base g c0 A c n :=
  ⟨h.own.kept hk (by simp [mtE]), h.mat.nil, h.mat.row.kept hk (by simp), h.mat.cap⟩
theorem LgAt.spot {W W' : World} {base g c0 : Nat} {A : Option Addr} {c n g8 : Nat} {cs : Array Value} (h : LgAt W base g c0 A c n) (hg : W.grownBy W' (some g8)) (hO : TBox W g8 43 cs) : LgAt W' base g c0 A c n :=
  h.kept (Kept.of_grown hg (fun q e => by
    injection e with e
    subst e
    exact ⟨_, _, _, hO, by decide⟩))
def bxR (N : Nat) (w : World) (v : Value) : Prop := ∀ g, v = .pointer (some ⟨g, 0, none⟩) → N ≤ g ∧ TBox w g 43 #[.int .i64 0, .int .i64 0]
theorem bxG {N : Nat} : (Stir.held (ptS 0) (bxR N)).good := ⟨⟨_, 0, rfl⟩, fun _ _ _ hb h g e => ⟨(h g e).1, (h g e).2.mono hb⟩⟩
set_option maxHeartbeats 4000000 in
set_option maxRecDepth 100000 in
theorem owedF_any (b : Bk) (n : Nat) (D : Int) (U : Nat → Int × Int) (to : Nat) (w : World) (h : Dg b n D U) (hT : BkAt w b) (hto : to < n) :
    Calls Tryz.prog 18 #[.agg #[.int .i64 b.base, .int .i64 (b.pl : Int), .int .i64 b.pers, .int .i64 b.late, .slice b.a1 b.n1 b.c1, .slice b.a2 b.n2 b.c2], .int .i64 (to : Int)] w fun e w' => e = .returned (.tuple #[.agg #[.int .i64 (U to).1, .int .i64 (U to).2], .int .i64 0]) ∧ Below w.heap.size w w' := by
  have hw1 : (to : Int) ≤ b.pers - 1 := by have := (h.ok.e2 to (by rw [h.n2]; exact hto)).who; rw [h.who to hto] at this; exact this.2
  have e1 : IntKind.i64.wrap (b.pers - 1) = b.pers - 1 := IntWalk.i64_in _ (by have := h.ok.pers; omega)
  have HW1 := Lib.hid hw1
  clear hw1
  have HTW := Lib.hid hT
  have HD0 := Lib.hid (Below.refl w.heap.size w)
  have HDG := Lib.hid h
  have HT0 := Lib.hid hT
  have HTO := Lib.hid hto
  clear h hT hto
  go_enter Tryz.func18, Tryz.ntmps18
  have HC1 := Lib.hid (fun (w' : World) (hb : Below ((w.alloc (.cells #[.int .i64 b.base, .int .i64 (b.pl : Int), .int .i64 b.pers, .int .i64 b.late, .slice b.a1 b.n1 b.c1, .slice b.a2 b.n2 b.c2] 41)).alloc (.cells #[.int .i64 0, .int .i64 0] 43)).heap.size ((w.alloc (.cells #[.int .i64 b.base, .int .i64 (b.pl : Int), .int .i64 b.pers, .int .i64 b.late, .slice b.a1 b.n1 b.c1, .slice b.a2 b.n2 b.c2] 41)).alloc (.cells #[.int .i64 0, .int .i64 0] 43)) w') => (withinF_b (to : Int) 0 (b.pers - 1) true w' (inR_t ⟨by omega, HW1.out⟩) : Calls Tryz.prog 42 #[.int .i64 (to : Int), .int .i64 0, .int .i64 (b.pers - 1)] w' fun e w'' => e = .returned (.bool true) ∧ Below w'.heap.size w' w''))
  have HC3 := Lib.hid (fun (w' : World) (hb : Below ((w.alloc (.cells #[.int .i64 b.base, .int .i64 (b.pl : Int), .int .i64 b.pers, .int .i64 b.late, .slice b.a1 b.n1 b.c1, .slice b.a2 b.n2 b.c2] 41)).alloc (.cells #[.int .i64 0, .int .i64 0] 43)).heap.size ((w.alloc (.cells #[.int .i64 b.base, .int .i64 (b.pl : Int), .int .i64 b.pers, .int .i64 b.late, .slice b.a1 b.n1 b.c1, .slice b.a2 b.n2 b.c2] 41)).alloc (.cells #[.int .i64 0, .int .i64 0] 43)) w') => (askF_any b w' HDG.out.ok ((HT0.out.mono (bAlloc (bAlloc (Below.refl _ _) (.cells #[.int .i64 b.base, .int .i64 (b.pl : Int), .int .i64 b.pers, .int .i64 b.late, .slice b.a1 b.n1 b.c1, .slice b.a2 b.n2 b.c2] 41)) (.cells #[.int .i64 0, .int .i64 0] 43))).mono hb) : Calls Tryz.prog 38 #[.agg #[.int .i64 b.base, .int .i64 (b.pl : Int), .int .i64 b.pers, .int .i64 b.late, .slice b.a1 b.n1 b.c1, .slice b.a2 b.n2 b.c2], .bool true] w' fun e w'' => e = .returned (.int .i64 0) ∧ Below w'.heap.size w' w''))
  go_wp2_with fail
  refine wp_region_quiet_below (by kernel_rfl) (by kernel_rfl) ?_
  repeat (go_big_quiet_step (((first | (go_at_call 42; with_reducible exact Calls.regrown_of (HC1.out _ (below_regrown _ _ _))) | (go_at_call 38; with_reducible exact Calls.regrown_of (HC3.out _ (below_regrown _ _ _)))))))
  refine wpQuiet_nil ?_
  intro w1 hw9
  have hb := below_of_regrown hw9
  clear hw9
  clear HC1 HC3
  have hB1 : Below w.heap.size w w1 := bTrans (bAlloc (bAlloc (Below.refl _ _) (.cells #[.int .i64 b.base, .int .i64 (b.pl : Int), .int .i64 b.pers, .int .i64 b.late, .slice b.a1 b.n1 b.c1, .slice b.a2 b.n2 b.c2] 41)) (.cells #[.int .i64 0, .int .i64 0] 43)) hb
  have HD1 := Lib.hid (bTrans HD0.out hB1)
  have HT1 := Lib.hid (HT0.out.mono hB1)
  have B1 := Lib.hid (show TBox w1 w.heap.size 41 #[.int .i64 b.base, .int .i64 (b.pl : Int), .int .i64 b.pers, .int .i64 b.late, .slice b.a1 b.n1 b.c1, .slice b.a2 b.n2 b.c2] from by have := ((TBox.new w #[.int .i64 b.base, .int .i64 (b.pl : Int), .int .i64 b.pers, .int .i64 b.late, .slice b.a1 b.n1 b.c1, .slice b.a2 b.n2 b.c2] 41).mono (bAlloc (Below.refl _ _) (.cells #[.int .i64 0, .int .i64 0] 43))).mono hb; simpa using this)
  have R1 := Lib.hid (show TBox w1 (w.heap.size + 1) 43 #[.int .i64 0, .int .i64 0] from by have := ((TBox.new (w.alloc (.cells #[.int .i64 b.base, .int .i64 (b.pl : Int), .int .i64 b.pers, .int .i64 b.late, .slice b.a1 b.n1 b.c1, .slice b.a2 b.n2 b.c2] 41)) #[.int .i64 0, .int .i64 0] 43).mono (Below.refl _ _)).mono hb; simpa using this)
  clear hb hB1 HD0 HT0
  obtain ⟨B_0, B_1, B_2, B_3, B_4, B_5, B_l⟩ := B1.out.c6
  obtain ⟨R_0, R_1, R_l⟩ := R1.out.c2
  go_wp2_with fail
  refine (largestD_any b n D U _ HDG.out HT1.out).mono ?_
  rintro e w2 ⟨⟨g0, c0, A, c, rfl, hL⟩, hb⟩
  have hB2 : Below w1.heap.size w1 w2 := bTrans (Below.refl _ _) hb
  have HD2 := Lib.hid (bTrans HD1.out hB2)
  have HT2 := Lib.hid (HT1.out.mono hB2)
  have HL2 := Lib.hid (hL)
  have B2 := Lib.hid (B1.out.mono hB2)
  have R2 := Lib.hid (R1.out.mono hB2)
  clear hb hB2 HD1 HT1 B1 B_0 B_1 B_2 B_3 B_4 B_5 B_l R1 R_0 R_1 R_l
  obtain ⟨B_0, B_1, B_2, B_3, B_4, B_5, B_l⟩ := B2.out.c6
  obtain ⟨R_0, R_1, R_l⟩ := R2.out.c2
  clear hL
  go_wp2_with fail
  have HLT9 := Lib.hid (show (w.heap.size + 1) < w2.heap.size ∧ w.heap.size < w2.heap.size from ⟨R2.out.lt, B2.out.lt⟩)
  obtain ⟨hg0, gc0⟩ := HL2.out.cell
  have HCO := Lib.hid (fun (w' : World) (hb : Below w2.heap.size w2 w') => owed_any A c b n D U to w' HDG.out (HT2.out.mono hb) (HL2.out.mono hb).prs HTO.out)
  refine wp_region_stir 7 [.const (.slice (some ⟨g0, 0, none⟩) 1 c0), .const (.pointer (some ⟨g0, 0, none⟩)), .const (.slice A n c), .const (.agg #[.int .i64 b.base, .int .i64 (b.pl : Int), .int .i64 b.pers, .int .i64 b.late, .slice b.a1 b.n1 b.c1, .slice b.a2 b.n2 b.c2]), .const (.int .i64 (to : Int)), .const (.agg #[.int .i64 (U to).1, .int .i64 (U to).2]), .held (ptS 0) (bxR w2.heap.size)] (by kernel_rfl) (by kernel_rfl) rfl ⟨trivial, trivial, trivial, trivial, trivial, trivial, bxG, trivial⟩ (crossAll_no _ _ _ _ trivial) ?_
  iterate 5 refine wpStir_const (by go_simp) ?_
  refine wpStir_constG (by kernel_rfl) (fun w' hb' => by
    go_simp
    refine (HCO.out w' hb').mono ?_
    rintro e w9 ⟨rfl, hb9⟩
    exact ⟨rfl, hb9⟩) ?_
  clear HCO
  simp only [Act.put, List.setIfInBounds_toArray, List.set_cons_succ, List.set_cons_zero]
  refine wpStir_held rfl (fun w' hb' hd => ?_) (fun v' hv' => ?_)
  · clear hd
    go_simp
    refine ⟨bAlloc (Below.refl _ _) _, ⟨_, rfl⟩, fun g e => ?_⟩
    obtain rfl : w'.heap.size = g := by simpa using e
    exact ⟨hb'.size, TBox.new _ _ _⟩
  obtain ⟨g8, rfl⟩ := hv'
  simp only [Act.put, List.setIfInBounds_toArray, List.set_cons_succ, List.set_cons_zero]
  refine wpStir_end (fun w4 hb5 hd => ?_)
  obtain ⟨hN8, hX8⟩ := hd.1 _ rfl
  have HN8 := Lib.hid hN8
  have HX8 := Lib.hid hX8
  clear hN8 hX8 gc0 hg0
  clear hd
  simp only [List.drop_succ_cons, List.drop_zero]
  have hb := hb5
  clear hb5
  have hB4 : Below w2.heap.size w2 w4 := bTrans (Below.refl _ _) hb
  have HD4 := Lib.hid (bTrans HD2.out hB4)
  have HT4 := Lib.hid (HT2.out.mono hB4)
  have HL4 := Lib.hid (HL2.out.mono hB4)
  have B4 := Lib.hid (B2.out.mono hB4)
  have R4 := Lib.hid (R2.out.mono hB4)
  clear hb hB4 HD2 HT2 HL2 B2 B_0 B_1 B_2 B_3 B_4 B_5 B_l R2 R_0 R_1 R_l
  obtain ⟨B_0, B_1, B_2, B_3, B_4, B_5, B_l⟩ := B4.out.c6
  obtain ⟨R_0, R_1, R_l⟩ := R4.out.c2
  obtain ⟨x8_0, x8_1, x8_l⟩ := HX8.out.c2
  have xf0 := HX8.out.frozen 0
  have xf1 := HX8.out.frozen 1
  go_wp2_with fail
  clear x8_0 x8_1 x8_l xf0 xf1
  have FIN := Lib.hid (add_fin (w := w4) (w2 := w4) (.int .i64 (U to).1) (.int .i64 (U to).2) (Below.refl _ _) HX8.out)
  obtain ⟨W, hW⟩ : ∃ y, y = (w4.setCell ⟨g8, 0, none⟩ (.int .i64 (U to).1)).setCell ⟨g8, 1, none⟩ (.int .i64 (U to).2) := ⟨_, rfl⟩
  rw [← hW] at FIN ⊢
  clear hW
  clear B_0 B_1 B_2 B_3 B_4 B_5 B_l R_0 R_1 R_l
  have hbr : (w.heap.size + 1) < g8 ∧ w.heap.size < g8 := by have := HN8.out; have := HLT9.out; omega
  have HNE := Lib.hid (show w.heap.size ≠ g8 ∧ (w.heap.size + 1) ≠ g8 ∧ w.heap.size ≤ g8 by omega)
  clear hbr
  have B9 := Lib.hid (B4.out.grown FIN.out.2 (by have := HNE.out; simp only [ne_eq, Option.some.injEq]; omega))
  have R9 := Lib.hid (R4.out.grown FIN.out.2 (by have := HNE.out; simp only [ne_eq, Option.some.injEq]; omega))
  have HD9 := Lib.hid (HD4.out.grown FIN.out.2 HD4.out.size (fun q hq => by injection hq with hq; have := HNE.out; omega))
  have HL9 := Lib.hid (HL4.out.spot FIN.out.2 HX8.out)
  go_loopw [33] (fun s33 wr => ∃ k : Nat, k ≤ 1 ∧ s33 = .int .i64 (k : Int) ∧ TBox wr g8 43 #[.int .i64 (U to).1, .int .i64 (U to).2] ∧ W.grownBy wr (some g8)) (fun s33 _ => 1 - (intOf s33).toNat)
  case atStart => exact ⟨0, Nat.zero_le _, rfl, FIN.out.1, World.grownBy.refl _ _⟩
  case round =>
    obtain ⟨k, hk, rfl, hO, hg⟩ := hrel
    have hB1 : Below w.heap.size w wr := HD9.out.grown hg HD9.out.size (fun q hq => by injection hq with hq; have := HNE.out; omega)
    have HD5 := Lib.hid hB1
    have HT5 := Lib.hid (HTW.out.mono hB1)
    have HU5 := Lib.hid (show Upto wr wr from Below.refl _ _)
    have HL5 := Lib.hid (HL9.out.spot hg FIN.out.1)
    have B5 := Lib.hid (B9.out.grown hg (by have := HNE.out; simp only [ne_eq, Option.some.injEq]; omega))
    have R5 := Lib.hid (R9.out.grown hg (by have := HNE.out; simp only [ne_eq, Option.some.injEq]; omega))
    have O5 := Lib.hid hO
    have HG := Lib.hid hg
    clear hO hB1 hg
    obtain ⟨B_0, B_1, B_2, B_3, B_4, B_5, B_l⟩ := B5.out.c6
    obtain ⟨R_0, R_1, R_l⟩ := R5.out.c2
    obtain ⟨O_0, O_1, O_l⟩ := O5.out.c2
    by_cases hlt : k < 1
    case pos =>
      have h1k : (k : Int) < 1 := by omega
      have h0k : (0 : Int) ≤ (k : Int) := by omega
      have HLT := Lib.hid hlt
      obtain ⟨hg0, gc0⟩ := HL5.out.cell
      have gk : wr.cell? ⟨g0, k, none⟩ = some (.slice A n c) := by rw [show k = 0 by omega]; exact gc0
      clear gc0
      go_wp2_with fail
      refine (owed_any A c b n D U to _ HDG.out HT5.out HL5.out.prs HTO.out).mono ?_
      rintro e w6 ⟨rfl, hb⟩
      have hB6 : Below wr.heap.size wr w6 := bTrans (Below.refl _ _) hb
      have HD6 := Lib.hid (bTrans HD5.out hB6)
      have HT6 := Lib.hid (HT5.out.mono hB6)
      have HU6 := Lib.hid (HU5.out.mono hB6)
      have HL6 := Lib.hid (HL5.out.mono hB6)
      have B6 := Lib.hid (B5.out.mono hB6)
      have R6 := Lib.hid (R5.out.mono hB6)
      have O6 := Lib.hid (O5.out.mono hB6)
      clear hb hB6 HD5 HT5 HU5 HL5 B5 B_0 B_1 B_2 B_3 B_4 B_5 B_l R5 R_0 R_1 R_l O5 O_0 O_1 O_l
      obtain ⟨B_0, B_1, B_2, B_3, B_4, B_5, B_l⟩ := B6.out.c6
      obtain ⟨R_0, R_1, R_l⟩ := R6.out.c2
      obtain ⟨O_0, O_1, O_l⟩ := O6.out.c2
      clear gk hg0
      have of0 := O6.out.frozen 0
      have of1 := O6.out.frozen 1
      have FIN6 := Lib.hid (add_fin (w := wr) (w2 := w6) (.int .i64 (U to).1) (.int .i64 (U to).2) HU6.out O6.out)
      go_wp2_with fail
      have HO8 := Lib.hid (show TBox (((w6.setCell ⟨g8, 0, none⟩ (.int .i64 (U to).1)).setCell ⟨g8, 1, none⟩ (.int .i64 (U to).2)).alloc (.cells #[.int .i64 (U to).1, .int .i64 (U to).2] 43)) g8 43 #[.int .i64 (U to).1, .int .i64 (U to).2] from FIN6.out.1.mono (bAlloc (Below.refl _ _) _))
      have HG8 := Lib.hid (show W.grownBy (((w6.setCell ⟨g8, 0, none⟩ (.int .i64 (U to).1)).setCell ⟨g8, 1, none⟩ (.int .i64 (U to).2)).alloc (.cells #[.int .i64 (U to).1, .int .i64 (U to).2] 43)) (some g8) from World.grownBy.trans HG.out (World.grownBy.trans FIN6.out.2 (World.grownBy_alloc _ _ _)))
      go_roundw
      case rel =>
        first
        | exact ⟨k + 1, HLT.out, by go_num, HO8.out, HG8.out⟩
        | ((repeat apply Exists.intro)
           refine ⟨⟨k + 1, HLT.out, ?_, HO8.out, HG8.out⟩, rfl⟩
           go_num)
      case measure => have := HLT.out; simp [intOf]; omega
    have he : k = 1 := by omega
    subst he
    have rf0 := R5.out.frozen 0
    have rf1 := R5.out.frozen 1
    go_wp2_with fail
    refine bodyPost_ret (v := .tuple #[.agg #[.int .i64 (U to).1, .int .i64 (U to).2], .int .i64 0]) (by simp [results, Tryz.results18, go_sem, *]) rfl ⟨rfl, ?_⟩
    exact Below.setCell (p := ⟨(w.heap.size + 1), 1, none⟩) (Below.setCell (p := ⟨(w.heap.size + 1), 0, none⟩) HD5.out (by simp <;> omega) _) (by simp <;> omega) _
end Go.Proofs.YtifkjnmnflhnoaaGreatDoor

