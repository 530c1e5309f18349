/- Parts joined. -/
import Derived.Test.YtchhodikgllgnaaDoorJD
import Derived.Maps.Own
import Derived.Test.YtchhodikgllgnaaDoorJB
set_option linter.unusedSimpArgs false
set_option linter.unusedVariables false
/- The walk of ask of the package quarrels. Condition: lengths are Go's. -/
namespace Go.Proofs.YtchhodikgllgnaaDoor
open Go.RowKit Go.Sort
/-- the worlds that are left, of the first k: a bit for each of them -/
def Qt.maskTo (t : Qt) : Nat → Nat
  | 0 => 0
  | k + 1 => if t.leftB k then t.maskTo k ||| 2 ^ k else t.maskTo k
theorem maskTo_lt (t : Qt) : ∀ k, t.maskTo k < 2 ^ k
  | 0 => by simp [Qt.maskTo]
  | k + 1 => by
    have ih := maskTo_lt t k
    have h2 : (2 : Nat) ^ (k + 1) = 2 ^ k + 2 ^ k := by rw [Nat.pow_succ]; omega
    unfold Qt.maskTo
    split
    · exact Nat.or_lt_two_pow (by omega) (by omega)
    · omega
theorem wrapU (n : Nat) (h : n < 18446744073709551616) : IntKind.u64.wrap (n : Int) = n := by
  simp [IntKind.wrap, IntKind.bits, IntKind.signed]
  omega
theorem shlW (k : Nat) (hk : k < 6) : IntKind.u64.wrap ((2 : Int) ^ k) = ((2 ^ k : Nat) : Int) := by
  rcases (by omega : k = 0 ∨ k = 1 ∨ k = 2 ∨ k = 3 ∨ k = 4 ∨ k = 5) with rfl | rfl | rfl | rfl | rfl | rfl <;> rfl
theorem orW (a b : Nat) (ha : a < 64) (hb : b < 64) : bits BinOp.or IntKind.u64 (a : Int) (b : Int) = ((a ||| b : Nat) : Int) := by
  have h : (BitVec.ofInt 64 (a : Int) ||| BitVec.ofInt 64 (b : Int)).toNat = a ||| b := by
    rw [BitVec.ofInt_natCast, BitVec.ofInt_natCast, BitVec.toNat_or, BitVec.toNat_ofNat, BitVec.toNat_ofNat, Nat.mod_eq_of_lt (by omega), Nat.mod_eq_of_lt (by omega)]
  have hlt : a ||| b < 2 ^ 6 := Nat.or_lt_two_pow ha hb
  have hw := wrapU (a ||| b) (by omega)
  rw [← hw, ← h]
  rfl
/-- a court: a town, the worlds that are left, a map -/
structure CourtAt (w : World) (C : Nat) (Aw Af : Option Addr) (cw cf : Nat) (t : Qt) (s mp : Nat) : Prop where
  box : BoxAt w C [.int .i64 t.wells, .slice Aw t.nw cw, .slice Af t.nf cf, .int .u64 (s : Int), .map (some mp)]
  frz : ∀ o, w.frozen? ⟨C, o, none⟩ = false
theorem CourtAt.mono {w w' : World} {C : Nat} {Aw Af : Option Addr} {cw cf : Nat} {t : Qt} {s mp : Nat} (h : CourtAt w C Aw Af cw cf t s mp) (hb : Below w.heap.size w w') : CourtAt w' C Aw Af cw cf t s mp :=
  ⟨h.box.mono hb, fun o => (hb.frozen (p := ⟨C, o, none⟩) h.box.lt).trans (h.frz o)⟩
theorem CourtAt.left {w : World} {C : Nat} {Aw Af : Option Addr} {cw cf : Nat} {t : Qt} {s mp : Nat} (h : CourtAt w C Aw Af cw cf t s mp) (s' : Nat) : CourtAt (w.setCell ⟨C, 3, none⟩ (.int .u64 (s' : Int))) C Aw Af cw cf t s' mp := by
  have o : ∀ i, i ≠ 3 → ∀ v, w.cell? ⟨C, i, none⟩ = some v → (w.setCell ⟨C, 3, none⟩ (.int .u64 (s' : Int))).cell? ⟨C, i, none⟩ = some v := fun i hi v hv => (World.cell?_setCell_other _ _ _ _ (fun e => by injection e with _ e; exact hi e.symm)).trans hv
  exact ⟨BoxAt.five (by simpa [World.setCell] using h.box.lt) (o 0 (by decide) _ (h.box.cell 0 _ rfl)) (o 1 (by decide) _ (h.box.cell 1 _ rfl)) (o 2 (by decide) _ (h.box.cell 2 _ rfl)) (World.cell?_setCell_same _ _ _ (h.box.cell 3 _ rfl)) (o 4 (by decide) _ (h.box.cell 4 _ rfl)), fun o => by rw [World.frozen?_setCell]; exact h.frz o⟩
/-- what ask hands back, of a valid town -/
def AskOk (w : World) (base : Nat) (Aw Af : Option Addr) (cw cf : Nat) (t : Qt) (e : Ending) : Prop := ∃ C mp, e = .returned (.tuple #[.pointer (some ⟨C, 0, none⟩), .int .i64 0]) ∧ CourtAt w C Aw Af cw cf t (t.maskTo t.nw) mp ∧ base ≤ C ∧ w.heap[mp]? = some (.map #[] 0) ∧ base ≤ mp
set_option maxHeartbeats 4000000 in
set_option maxRecDepth 100000 in
theorem askQ_ok (Aw Af : Option Addr) (cw cf : Nat) (t : Qt) (w : World) (ok : t.Ok) (hlen : ∀ i, i < t.nw → ∀ k, k < (t.world i).n → (t.world i).len k ≤ 9223372036854775807) (hT : QAt w Aw Af t) :
    Calls Tryd.prog 91 #[.agg #[.int .i64 t.wells, .slice Aw t.nw cw, .slice Af t.nf cf], .bool true] w fun e w' => AskOk w' w.heap.size Aw Af cw cf t e ∧ Below w.heap.size w w' := by
  have hb0 := bAlloc (Below.refl w.heap.size w) (.cells #[.int .i64 t.wells, .slice Aw t.nw cw, .slice Af t.nf cf] 25)
  have HT := Lib.hid (hT.mono hb0)
  have HB := Lib.hid hb0
  have HOK := Lib.hid ok
  have HLEN := Lib.hid hlen
  have HE := Lib.hid (Qt.err_ok ok)
  have nw6 := ok.nw
  have nf6 := ok.nf
  clear hT hb0 ok hlen
  have hmm := @run_makeMap Tryd.prog
  go_enter Tryd.func91, Tryd.ntmps91
  go_wp2_with fail
  refine (checkQ_any _ _ _ _ t _ (by omega) (by omega) HLEN.out HT.out).mono ?_
  rintro e w1 ⟨he, hb1⟩
  rw [HE.out] at he
  subst he
  have HB1 := Lib.hid hb1
  obtain ⟨bc1, bf1⟩ := bcell hb1
  have hz1 := hb1.size
  simp only [World.size_alloc] at hz1
  have hy1 : w.heap.size < w1.heap.size := hz1
  clear hb1
  go_wp2_with fail
  clear hmm
  have HC1 := Lib.hid (show CourtAt ((w1.alloc (.map #[] 0)).alloc (.cells #[.int .i64 t.wells, .slice Aw t.nw cw, .slice Af t.nf cf, .int .u64 0, .map (some w1.heap.size)] 98)) (w1.heap.size + 1) Aw Af cw cf t (t.maskTo 0) w1.heap.size from ⟨BoxAt.five (by simp) (by simp [go_sem]) (by simp [go_sem]) (by simp [go_sem]) (by simp [go_sem, Qt.maskTo]) (by simp [go_sem]), fun o => by simp [go_sem]⟩)
  have HBC := Lib.hid (show Below (w.alloc (.cells #[.int .i64 t.wells, .slice Aw t.nw cw, .slice Af t.nf cf] 25)).heap.size (w.alloc (.cells #[.int .i64 t.wells, .slice Aw t.nw cw, .slice Af t.nf cf] 25)) ((w1.alloc (.map #[] 0)).alloc (.cells #[.int .i64 t.wells, .slice Aw t.nw cw, .slice Af t.nf cf, .int .u64 0, .map (some w1.heap.size)] 98)) from bAlloc (bAlloc HB1.out _) _)
  have HMP := Lib.hid (show ((w1.alloc (.map #[] 0)).alloc (.cells #[.int .i64 t.wells, .slice Aw t.nw cw, .slice Af t.nf cf, .int .u64 0, .map (some w1.heap.size)] 98)).heap[w1.heap.size]? = some (.map #[] 0) from ((bAlloc (Below.refl _ _) _).block w1.heap.size (by simp)).trans (heap_alloc_new _ _))
  clear bc1 bf1
  go_loopw [24] (fun i wr => ∃ k : Nat, i = .int .i64 k ∧ k ≤ t.nw ∧ CourtAt wr (w1.heap.size + 1) Aw Af cw cf t (t.maskTo k) w1.heap.size ∧ wr.heap[w1.heap.size]? = some (.map #[] 0) ∧ Below (w.alloc (.cells #[.int .i64 t.wells, .slice Aw t.nw cw, .slice Af t.nf cf] 25)).heap.size (w.alloc (.cells #[.int .i64 t.wells, .slice Aw t.nw cw, .slice Af t.nf cf] 25)) wr) (fun i _ => t.nw - (intOf i).toNat)
  case atStart => exact ⟨0, rfl, Nat.zero_le _, HC1.out, HMP.out, HBC.out⟩
  case round =>
    obtain ⟨k, rfl, hk, hc, hm, hbel⟩ := hrel
    have HC2 := Lib.hid hc
    have HM2 := Lib.hid hm
    have HL3 := Lib.hid hbel
    obtain ⟨bc3, bf3⟩ := bcell hbel
    have hz3 := hbel.size
    simp only [World.size_alloc] at hz3
    have hy3 : w.heap.size < wr.heap.size := hz3
    clear hbel hc hm
    by_cases hlt : k < t.nw
    · rcases (HT.out.mono HL3.out).worlds with h0 | ⟨b, o, hA, hb, hcell⟩
      · omega
      obtain ⟨A', c', c0, hrow, _⟩ := hcell k hlt
      have HR := Lib.hid (hrow.mono (bAlloc (Below.refl wr.heap.size wr) (.cells #[.slice A' (t.world k).n c'] 81)))
      have HX := Lib.hid (BoxAt.one (w := wr.alloc (.cells #[.slice A' (t.world k).n c'] 81)) (a := wr.heap.size) (x := .slice A' (t.world k).n c') (by simp) (by simp [go_sem]))
      have k1 : (k : Int) < (t.nw : Int) := by omega
      have HK := Lib.hid hlt
      clear hcell hrow
      obtain ⟨bk, hbk⟩ : ∃ bk, t.leftB k = bk := ⟨_, rfl⟩
      have HBK := Lib.hid hbk
      have HCN := Lib.hid ((show (!anyB (fun j => !(t.world k).agrees (t.fact j)) t.nf) = bk from hbk) ▸ none_fact Af t.nf cf 122 #[.pointer (some ⟨wr.heap.size, 0, none⟩)] t.fact (fun j => !(t.world k).agrees (t.fact j)) (wr.alloc (.cells #[.slice A' (t.world k).n c'] 81)) (by omega) ((HT.out.mono HL3.out).mono (bAlloc (Below.refl _ _) _)).facts (enters_of Tryd.func122 (by kernel_rfl))
        (fun j hj w' hb' => ask1_any A' c' wr.heap.size t.wells (t.world k) (t.fact j) w' (HOK.out.world k HK.out) (HOK.out.fact j hj) (HR.out.mono hb') (HX.out.mono hb')) :
        Calls Tryd.prog 105 #[.slice Af t.nf cf, .func (.func 122) #[] #[.pointer (some ⟨wr.heap.size, 0, none⟩)]] (wr.alloc (.cells #[.slice A' (t.world k).n c'] 81)) fun e w' => e = .returned (.bool bk) ∧ Below (wr.alloc (.cells #[.slice A' (t.world k).n c'] 81)).heap.size (wr.alloc (.cells #[.slice A' (t.world k).n c'] 81)) w')
      clear hbk
      subst hA
      go_wp2_with fail
      refine HCN.out.mono ?_
      rintro e w4 ⟨rfl, hb4⟩
      have hb4 := bTrans (bAlloc (Below.refl wr.heap.size wr) _) hb4
      have HC4 := Lib.hid (HC2.out.mono hb4)
      have HM4 := Lib.hid ((hb4.block w1.heap.size (Array.getElem?_eq_some_iff.1 HM2.out).1).trans HM2.out)
      have HL4 := Lib.hid (bTrans HL3.out hb4)
      clear hb4 c0 hb bc3 bf3
      cases bk
      · have HS := Lib.hid (show t.maskTo (k + 1) = t.maskTo k by
          show (if t.leftB k then t.maskTo k ||| 2 ^ k else t.maskTo k) = _
          rw [if_neg (by rw [HBK.out]; decide)])
        go_wp2_with fail
        go_roundw
        case rel =>
          first
          | exact ⟨k + 1, by go_num, by omega, by rw [HS.out]; exact HC4.out, HM4.out, HL4.out⟩
          | ((repeat apply Exists.intro)
             refine ⟨⟨k + 1, ?_, by omega, by rw [HS.out]; exact HC4.out, HM4.out, HL4.out⟩, rfl⟩
             go_num)
        case measure => simp [intOf]; omega
      · have HS := Lib.hid (show t.maskTo (k + 1) = t.maskTo k ||| 2 ^ k by
          show (if t.leftB k then t.maskTo k ||| 2 ^ k else t.maskTo k) = _
          rw [if_pos HBK.out])
        obtain ⟨s, hs⟩ : ∃ s, t.maskTo k = s := ⟨_, rfl⟩
        obtain ⟨p, hp⟩ : ∃ p, 2 ^ k = p := ⟨_, rfl⟩
        obtain ⟨q, hq⟩ : ∃ q, s ||| p = q := ⟨_, rfl⟩
        have HQ := Lib.hid (show t.maskTo (k + 1) = q by rw [HS.out, hs, hp, hq])
        have hshl : IntKind.u64.wrap ((2 : Int) ^ k) = (p : Int) := by
          rw [← hp]
          exact shlW k (by omega)
        have h64 : (2 : Nat) ^ k ≤ 2 ^ 5 := Nat.pow_le_pow_right (by decide) (by omega)
        have hs64 : s < 64 := by have := maskTo_lt t k; rw [hs] at this; omega
        have hor : bits BinOp.or IntKind.u64 (s : Int) (p : Int) = (q : Int) := by
          rw [← hq]
          exact orW s p hs64 (by omega)
        have hc4 := HC4.out
        rw [hs] at hc4
        have HCS := Lib.hid hc4
        have x4 := hc4.box.lt
        have y4 := hc4.box.cell 3 _ rfl
        have z4 := hc4.frz 3
        clear hs hp hq h64 hs64 hc4
        go_wp2_with fail
        refine wp_region_vals 9 [.pointer (some ⟨w1.heap.size + 1, 0, none⟩), .pointer (some ⟨w1.heap.size + 1, 0, none⟩), .pointer (some ⟨w1.heap.size + 1, 3, none⟩), .int .u64 s, .int .i64 k, .int .u64 p, .int .u64 q, .pointer (some ⟨w1.heap.size + 1, 0, none⟩), .pointer (some ⟨w1.heap.size + 1, 3, none⟩)] (by kernel_rfl) (by kernel_rfl) rfl ?_
        simp only [List.map_cons, List.map_nil]
        iterate 9 refine wpStir_const (by go_simp) ?_
        refine wpStir_end (fun w5 hb5 hd => ?_)
        clear hd
        simp only [List.drop_succ_cons, List.drop_zero]
        simp only [Act.put, List.setIfInBounds_toArray, List.set_cons_succ, List.set_cons_zero]
        have hc5 := HCS.out.mono hb5
        have hm5 := (hb5.block w1.heap.size (Array.getElem?_eq_some_iff.1 HM4.out).1).trans HM4.out
        have HC6 := Lib.hid (hc5.left q)
        have HL6 := Lib.hid (Below.setCell (p := ⟨w1.heap.size + 1, 3, none⟩) (bTrans HL4.out hb5) (by simp; omega) (.int .u64 (q : Int)))
        have HM6 := Lib.hid ((Below.heap_setCell w5 ⟨w1.heap.size + 1, 3, none⟩ (.int .u64 (q : Int)) w1.heap.size (by show w1.heap.size ≠ w1.heap.size + 1; omega)).trans hm5)
        have x5 := hc5.box.lt
        have y5 := hc5.box.cell 3 _ rfl
        have z5 := hc5.frz 3
        clear hb5 hc5 hm5 x4 y4 z4 hshl hor
        go_wp2_with fail
        go_roundw
        case rel =>
          first
          | exact ⟨k + 1, by go_num, by omega, by rw [HQ.out]; exact HC6.out, HM6.out, HL6.out⟩
          | ((repeat apply Exists.intro)
             refine ⟨⟨k + 1, ?_, by omega, by rw [HQ.out]; exact HC6.out, HM6.out, HL6.out⟩, rfl⟩
             go_num)
        case measure => simp [intOf]; omega
    · obtain rfl : k = t.nw := by omega
      go_wp2_with fail
      go_ret2
      exact ⟨⟨_, _, rfl, HC2.out, by omega, HM2.out, by omega⟩, bTrans HB.out HL3.out⟩
end Go.Proofs.YtchhodikgllgnaaDoor
/- Walks of math/bits.TrailingZeros of small numbers. Condition: the listed table holds what it holds. -/
namespace Go.Proofs.YtchhodikgllgnaaDoor
open Go.RowKit Go.Sort
/-- the place of the lowest bit of a number below 64 -/
def lowB (s : Nat) : Nat := if s % 2 = 1 then 0 else if s / 2 % 2 = 1 then 1 else if s / 4 % 2 = 1 then 2 else if s / 8 % 2 = 1 then 3 else if s / 16 % 2 = 1 then 4 else 5
/-- what is read of the table of math/bits -/
structure TabAt (w : World) : Prop where
  lt : 1 < w.heap.size
  cell : ∀ j : Nat, j < 6 → w.cell? ⟨1, 2 ^ j - 1, none⟩ = some (.int .u8 (j : Int))
theorem TabAt.mono {w w' : World} (h : TabAt w) (hb : Below w.heap.size w w') : TabAt w' :=
  ⟨Nat.lt_of_lt_of_le h.lt hb.size, fun j hj => (hb.cell (p := ⟨1, _, none⟩) h.lt).trans (h.cell j hj)⟩
theorem lowB_and : ∀ s : Nat, s < 64 → 0 < s → bits BinOp.and IntKind.u64 (s : Int) (IntKind.u64.wrap (-(s : Int))) = ((2 ^ lowB s : Nat) : Int) := by decide +kernel
theorem lowB_lt (s : Nat) : lowB s < 6 := by unfold lowB; (repeat' split) <;> omega
set_option maxHeartbeats 4000000 in
set_option maxRecDepth 100000 in
theorem tz64_any (s : Nat) (w : World) (h0 : 0 < s) (h1 : s < 64) (hT : TabAt w) :
    Calls Tryd.prog 136 #[.int .u64 s] w fun e w' => e = .returned (.int .i64 (lowB s : Int)) ∧ w = w' := by
  have hand := lowB_and s h1 h0
  have g0 : ((s : Int) == 0) = false := beq_eq_false_iff_ne.2 (by omega)
  have hlt := hT.lt
  have hj := lowB_lt s
  obtain ⟨j, hjj⟩ : ∃ j, lowB s = j := ⟨_, rfl⟩
  rw [hjj] at hand hj ⊢
  have c0 := hT.cell j hj
  clear hT hjj
  rcases (by omega : j = 0 ∨ j = 1 ∨ j = 2 ∨ j = 3 ∨ j = 4 ∨ j = 5) with rfl | rfl | rfl | rfl | rfl | rfl
  all_goals
    simp only [Nat.reducePow, Nat.reduceSub, Int.cast_ofNat_Int] at hand c0
    go_enter Tryd.func136, Tryd.ntmps136
    go_wp2_with fail
    go_ret
    exact ⟨rfl, rfl⟩
theorem tz_any (s : Nat) (w : World) (h0 : 0 < s) (h1 : s < 64) (hT : TabAt w) :
    Calls Tryd.prog 123 #[.int .u64 s] w fun e w' => e = .returned (.int .i64 (lowB s : Int)) ∧ w = w' := by
  have HT := Lib.hid hT
  clear hT
  go_enter Tryd.func123, Tryd.ntmps123
  go_wp2_with fail
  refine (tz64_any s _ h0 h1 HT.out).mono ?_
  rintro e w' ⟨rfl, rfl⟩
  go_wp2_with fail
  go_ret
  exact ⟨rfl, rfl⟩
/-- the bits of a number below 64, the least one first -/
def bitsL (s : Nat) : List Int := selTo (fun j => s.testBit j) 6
def clr (s : Nat) : Nat := s &&& (s - 1)
theorem bitsL_step : ∀ s : Nat, s < 64 → 0 < s → bitsL s = (lowB s : Int) :: bitsL (clr s) := by decide +kernel
theorem clr_lt : ∀ s : Nat, s < 64 → 0 < s → clr s < s := by decide +kernel
theorem clr_and : ∀ s : Nat, s < 64 → 0 < s → bits BinOp.and IntKind.u64 (s : Int) (IntKind.u64.wrap ((s : Int) - 1)) = (clr s : Int) := by decide +kernel
theorem clr_and2 : ∀ s : Nat, s < 64 → 0 < s → bits BinOp.and IntKind.u64 (s : Int) ((s : Int) - 1) = (clr s : Int) := by decide +kernel
theorem bitsL_zero : bitsL 0 = [] := by decide +kernel
theorem bitsL_len (s : Nat) : (bitsL s).length ≤ 6 := selTo_len _ 6
/-- what list hands back -/
def ListOut (w : World) (base s : Nat) (e : Ending) : Prop := ∃ v, e = .returned v ∧ OwnL w base v (bitsL s)
set_option maxHeartbeats 4000000 in
set_option maxRecDepth 100000 in
theorem list_any (s : Nat) (w : World) (hs : s < 64) (hT : TabAt w) :
    Calls Tryd.prog 92 #[.int .u64 s] w fun e w' => ListOut w' w.heap.size s e ∧ Below w.heap.size w w' := by
  have HT := Lib.hid hT
  clear hT
  go_enter Tryd.func92, Tryd.ntmps92
  go_wp2_with fail
  go_loopw [0, 3] (fun x v wr => ∃ (r : Nat) (l : List Int), x = .int .u64 r ∧ r ≤ s ∧ l ++ bitsL r = bitsL s ∧ OwnL wr w.heap.size v l ∧ Below w.heap.size w wr) (fun x _ _ => (intOf x).toNat)
  case atStart => exact ⟨s, [], rfl, Nat.le_refl _, rfl, OwnL.nil _ _, Below.refl _ _⟩
  case round =>
    obtain ⟨r, l, rfl, hr, hl, hown, hbel⟩ := hrel
    have HLL := Lib.hid hl
    have HO := Lib.hid hown
    have HL3 := Lib.hid hbel
    have hz3 := hbel.size
    clear hl hown hbel
    by_cases h0 : 0 < r
    · have g0 : ((r : Int) != 0) = true := bne_iff_ne.2 (by omega)
      have hc1 := clr_and r (by omega) h0
      have hc2 := clr_and2 r (by omega) h0
      have HCL := Lib.hid (clr_lt r (by omega) h0)
      have HST := Lib.hid (bitsL_step r (by omega) h0)
      have HLEN := Lib.hid (show l.length ≤ 1000 by
        have := congrArg List.length HLL.out
        rw [List.length_append] at this
        have := bitsL_len s
        omega)
      obtain ⟨q, hq⟩ : ∃ q, clr r = q := ⟨_, rfl⟩
      obtain ⟨j, hj⟩ : ∃ j, lowB r = j := ⟨_, rfl⟩
      rw [hq] at hc1 hc2
      have HQ := Lib.hid hq
      have HJ := Lib.hid hj
      clear hq hj
      go_wp2_with fail
      refine (tz_any r _ h0 (by omega) (HT.out.mono HL3.out)).mono ?_
      rintro e w' ⟨he, rfl⟩
      rw [HJ.out] at he
      subst he
      go_wp2_with (at_builtin; refine wpList_snoc _ rfl (Operand.tmp 10) (Operand.tmp 13) rfl w.heap.size _ l rfl ?q1 wr.heap.size j rfl ?q2 HLEN.out ?q3 ?_)
      case q1 => exact HO.out.mono (bAlloc (Below.refl _ _) _)
      case q2 => simp [go_sem]
      case q3 => simp; omega
      intro v' w5 hown5 hb5
      have HO5 := Lib.hid hown5
      have HL5 := Lib.hid (hb5 w.heap.size _ (Nat.le_refl _) (bAlloc HL3.out _))
      clear hown5 hb5
      go_wp2_with fail
      go_roundw
      case rel => exact ⟨q, l ++ [(j : Int)], rfl, by have := HCL.out; have := HQ.out; omega, by rw [List.append_assoc, List.singleton_append, ← HQ.out, ← HJ.out, ← HST.out]; exact HLL.out, HO5.out, HL5.out⟩
      case measure => have := HCL.out; have := HQ.out; simp [intOf]; omega
    · obtain rfl : r = 0 := by omega
      have HF := Lib.hid (show l = bitsL s by have := HLL.out; rw [bitsL_zero, List.append_nil] at this; exact this)
      go_wp2_with fail
      go_ret
      exact ⟨⟨_, rfl, HF.out ▸ HO.out⟩, HL3.out⟩
end Go.Proofs.YtchhodikgllgnaaDoor
/- Walks of the package quarrels: ask of any town, open, Left. Conditions: lengths are Go's; the listed table holds what it holds. -/
namespace Go.Proofs.YtchhodikgllgnaaDoor
open Go.RowKit Go.Sort
theorem leftTo_sel (t : Qt) : ∀ n, t.leftTo n = selTo t.leftB n
  | 0 => rfl
  | n + 1 => by
    show (if t.leftB n then t.leftTo n ++ [(n : Int)] else t.leftTo n) = (if t.leftB n then selTo t.leftB n ++ [(n : Int)] else selTo t.leftB n)
    rw [leftTo_sel t n]
theorem selTo_congr {p q : Nat → Bool} : ∀ n, (∀ i, i < n → p i = q i) → selTo p n = selTo q n
  | 0, _ => rfl
  | n + 1, h => by
    show (if p n then selTo p n ++ [(n : Int)] else selTo p n) = (if q n then selTo q n ++ [(n : Int)] else selTo q n)
    rw [selTo_congr n (fun i hi => h i (by omega)), h n (by omega)]
theorem selTo_past {p : Nat → Bool} {n : Nat} : ∀ m, n ≤ m → (∀ i, n ≤ i → i < m → p i = false) → selTo p m = selTo p n
  | 0, h, _ => by obtain rfl : n = 0 := by omega
                  rfl
  | m + 1, h, hp => by
    rcases Nat.lt_or_ge m n with h1 | h1
    · obtain rfl : n = m + 1 := by omega
      rfl
    · show (if p m then selTo p m ++ [(m : Int)] else selTo p m) = _
      rw [hp m h1 (by omega)]
      exact selTo_past m h1 (fun i h2 h3 => hp i h2 (by omega))
theorem maskTo_bit (t : Qt) (j : Nat) : ∀ k, (t.maskTo k).testBit j = (decide (j < k) && t.leftB j)
  | 0 => by simp [Qt.maskTo]
  | k + 1 => by
    have ih := maskTo_bit t j k
    unfold Qt.maskTo
    by_cases hjk : j = k
    · subst hjk
      split
      · rename_i h
        rw [Nat.testBit_or, Nat.testBit_two_pow_self, h]
        simp
      · rename_i h
        rw [ih]
        simp [h]
    · have h1 : (decide (j < k + 1)) = decide (j < k) := by by_cases h : j < k <;> simp [h] <;> omega
      split
      · rw [Nat.testBit_or, ih, Nat.testBit_two_pow_of_ne (fun e => hjk e.symm), h1, Bool.or_false]
      · rw [ih, h1]
theorem bits_mask (t : Qt) (h : t.nw ≤ 6) : bitsL (t.maskTo t.nw) = t.leftL := by
  unfold bitsL Qt.leftL
  rw [leftTo_sel, selTo_past (n := t.nw) 6 h fun i h1 h2 => by rw [maskTo_bit]; simp; omega]
  exact selTo_congr _ fun i hi => by rw [maskTo_bit]; simp [hi]
theorem bits_nil : ∀ s : Nat, s < 64 → bitsL s = [] → s = 0 := by decide +kernel
theorem mask_64 (t : Qt) (h : t.nw ≤ 6) : t.maskTo t.nw < 64 := by
  have h1 := maskTo_lt t t.nw
  have h2 : (2 : Nat) ^ t.nw ≤ 2 ^ 6 := Nat.pow_le_pow_right (by decide) h
  omega
theorem mask_zero (t : Qt) (h : t.nw ≤ 6) : t.maskTo t.nw = 0 ↔ t.leftL = [] := by
  constructor
  · intro e
    rw [← bits_mask t h, e]
    exact bitsL_zero
  · intro e
    exact bits_nil _ (mask_64 t h) (by rw [bits_mask t h]; exact e)
/-- lengths are Go's -/
def Qt.Small (t : Qt) : Prop := t.nw ≤ 9223372036854775807 ∧ t.nf ≤ 9223372036854775807 ∧ ∀ i, i < t.nw → ∀ k, k < (t.world i).n → (t.world i).len k ≤ 9223372036854775807
/-- what ask and open hand back: a court, or an error -/
def AskOut (w : World) (base : Nat) (Aw Af : Option Addr) (cw cf : Nat) (t : Qt) (er : Int) (e : Ending) : Prop := (er ≠ 0 → e = .returned (.tuple #[.pointer none, .int .i64 er])) ∧ (er = 0 → AskOk w base Aw Af cw cf t e)
set_option maxHeartbeats 2000000 in
set_option maxRecDepth 100000 in
theorem askQ_any (Aw Af : Option Addr) (cw cf : Nat) (t : Qt) (is : Bool) (w : World) (hs : t.Small) (hT : QAt w Aw Af t) :
    Calls Tryd.prog 91 #[.agg #[.int .i64 t.wells, .slice Aw t.nw cw, .slice Af t.nf cf], .bool is] w fun e w' => AskOut w' w.heap.size Aw Af cw cf t (t.askErr is) e ∧ Below w.heap.size w w' := by
  by_cases h : t.Ok ∧ is = true
  · obtain ⟨ok, rfl⟩ := h
    refine (askQ_ok Aw Af cw cf t w ok hs.2.2 hT).mono ?_
    rintro e w' ⟨h1, h2⟩
    exact ⟨⟨fun h => absurd (askErr_ok ok true) h, fun _ => h1⟩, h2⟩
  have hb0 := bAlloc (Below.refl w.heap.size w) (.cells #[.int .i64 t.wells, .slice Aw t.nw cw, .slice Af t.nf cf] 25)
  have HT := Lib.hid (hT.mono hb0)
  have HB := Lib.hid hb0
  have HS := Lib.hid hs
  clear hT hb0 hs
  by_cases ok : t.Ok
  · obtain rfl : is = false := by cases is; rfl; exact absurd ⟨ok, rfl⟩ h
    have HE := Lib.hid (Qt.err_ok ok)
    have HA := Lib.hid (show t.askErr false = 1 from askErr_ok ok false)
    clear ok h
    go_enter Tryd.func91, Tryd.ntmps91
    go_wp2_with fail
    refine (checkQ_any _ _ _ _ t _ HS.out.1 HS.out.2.1 HS.out.2.2 HT.out).mono ?_
    rintro e w1 ⟨he, hb1⟩
    rw [HE.out] at he
    subst he
    go_wp2_with fail
    go_ret2
    exact ⟨⟨fun _ => by rw [HA.out]; rfl, (fun h => by rw [HA.out] at h; cases h)⟩, bTrans HB.out hb1⟩
  · have HE := Lib.hid (Qt.err_bad ok)
    have HA := Lib.hid (askErr_bad ok is)
    clear ok h
    go_enter Tryd.func91, Tryd.ntmps91
    go_wp2_with fail
    refine (checkQ_any _ _ _ _ t _ HS.out.1 HS.out.2.1 HS.out.2.2 HT.out).mono ?_
    rintro e w1 ⟨he, hb1⟩
    rw [HE.out] at he
    subst he
    go_wp2_with fail
    go_ret2
    exact ⟨⟨fun _ => by rw [HA.out]; rfl, (fun h => by rw [HA.out] at h; cases h)⟩, bTrans HB.out hb1⟩
set_option maxHeartbeats 2000000 in
set_option maxRecDepth 100000 in
theorem openQ_any (Aw Af : Option Addr) (cw cf : Nat) (t : Qt) (is : Bool) (w : World) (hs : t.Small) (hT : QAt w Aw Af t) :
    Calls Tryd.prog 70 #[.agg #[.int .i64 t.wells, .slice Aw t.nw cw, .slice Af t.nf cf], .bool is] w fun e w' => AskOut w' w.heap.size Aw Af cw cf t (t.knowErr is) e ∧ Below w.heap.size w w' := by
  have hb0 := bAlloc (Below.refl w.heap.size w) (.cells #[.int .i64 t.wells, .slice Aw t.nw cw, .slice Af t.nf cf] 25)
  have HT := Lib.hid (hT.mono hb0)
  have HB := Lib.hid hb0
  clear hT hb0
  obtain ⟨ae, hae⟩ : ∃ ae, t.askErr is = ae := ⟨_, rfl⟩
  by_cases ha0 : ae = 0
  · subst ha0
    obtain ⟨ok, rfl⟩ := askErr_zero hae
    have HAE := Lib.hid hae
    have hm := mask_zero t ok.nw
    have h64 := mask_64 t ok.nw
    obtain ⟨s, hsk⟩ : ∃ s, t.maskTo t.nw = s := ⟨_, rfl⟩
    have HSK := Lib.hid hsk
    rw [hsk] at hm h64
    clear hae hsk
    by_cases hz : s = 0
    · have HKE := Lib.hid (knowErr_none ok (hm.1 hz))
      have g0 : ((s : Int) == 0) = true := by simp [hz]
      clear hm ok hz
      go_enter Tryd.func70, Tryd.ntmps70
      go_wp2_with fail
      refine (askQ_any _ _ _ _ t _ _ hs HT.out).mono ?_
      rintro e w1 ⟨⟨_, hk⟩, hb1⟩
      obtain ⟨C, mp, rfl, hc, _, _⟩ := hk HAE.out
      rw [HSK.out] at hc
      have x1 := hc.box.lt
      have y1 := hc.box.cell 3 _ rfl
      have HB1 := Lib.hid hb1
      clear hk hc hb1
      go_wp2_with fail
      go_ret2
      exact ⟨⟨fun _ => by rw [HKE.out]; rfl, (fun h => by rw [HKE.out] at h; cases h)⟩, bTrans HB.out HB1.out⟩
    · have HKE := Lib.hid (knowErr_ok ok (fun h => hz (hm.2 h)))
      have g0 : ((s : Int) == 0) = false := by simp [hz]
      clear hm ok hz
      go_enter Tryd.func70, Tryd.ntmps70
      go_wp2_with fail
      refine (askQ_any _ _ _ _ t _ _ hs HT.out).mono ?_
      rintro e w1 ⟨⟨_, hk⟩, hb1⟩
      obtain ⟨C, mp, rfl, hc, h1, h2, h3⟩ := hk HAE.out
      have HCC := Lib.hid hc
      have H1 := Lib.hid (show w.heap.size ≤ C by simp only [World.size_alloc] at h1; omega)
      have H2 := Lib.hid h2
      have H3 := Lib.hid (show w.heap.size ≤ mp by simp only [World.size_alloc] at h3; omega)
      rw [HSK.out] at hc
      have x1 := hc.box.lt
      have y1 := hc.box.cell 3 _ rfl
      have HB1 := Lib.hid hb1
      clear hk hc hb1 h1 h2 h3
      go_wp2_with fail
      go_ret2
      exact ⟨⟨fun h => absurd HKE.out h, fun _ => ⟨C, mp, rfl, HCC.out, H1.out, H2.out, H3.out⟩⟩, bTrans HB.out HB1.out⟩
  · have HKE := Lib.hid (show t.knowErr is = ae by unfold Qt.knowErr; rw [hae, if_neg ha0])
    have HAE := Lib.hid hae
    have HNZ := Lib.hid ha0
    have g0 : (ae == 0) = false := by simp [ha0]
    clear hae ha0
    go_enter Tryd.func70, Tryd.ntmps70
    go_wp2_with fail
    refine (askQ_any _ _ _ _ t _ _ hs HT.out).mono ?_
    rintro e w1 ⟨⟨hk, _⟩, hb1⟩
    obtain rfl := hk (by rw [HAE.out]; exact HNZ.out)
    rw [HAE.out]
    have HB1 := Lib.hid hb1
    clear hk hb1
    go_wp2_with fail
    go_ret2
    exact ⟨⟨fun _ => by rw [HKE.out]; rfl, fun h => absurd (HKE.out.symm.trans h) HNZ.out⟩, bTrans HB.out HB1.out⟩
end Go.Proofs.YtchhodikgllgnaaDoor
/- Walks of the package quarrels: Left. Conditions: lengths are Go's; the listed table holds what it holds. -/
namespace Go.Proofs.YtchhodikgllgnaaDoor
open Go.RowKit Go.Sort
set_option maxHeartbeats 2000000 in
set_option maxRecDepth 100000 in
theorem leftQ_any (Aw Af : Option Addr) (cw cf : Nat) (t : Qt) (w : World) (hs : t.Small) (hT : QAt w Aw Af t) (hB : TabAt w) :
    Calls Tryd.prog 39 #[.agg #[.int .i64 t.wells, .slice Aw t.nw cw, .slice Af t.nf cf]] w fun e w' => Left5Out w' w.heap.size t e ∧ Below w.heap.size w w' := by
  have hb0 := bAlloc (Below.refl w.heap.size w) (.cells #[.int .i64 t.wells, .slice Aw t.nw cw, .slice Af t.nf cf] 25)
  have HT := Lib.hid (hT.mono hb0)
  have HTB := Lib.hid (hB.mono hb0)
  have HB := Lib.hid hb0
  clear hT hb0 hB
  by_cases ok : t.Ok
  · have HE := Lib.hid (Qt.err_ok ok)
    have HAE := Lib.hid (show t.askErr true = 0 from askErr_ok ok true)
    have HOK := Lib.hid ok
    obtain ⟨s, hsk⟩ : ∃ s, t.maskTo t.nw = s := ⟨_, rfl⟩
    have HBM := Lib.hid (show bitsL s = t.leftL by rw [← hsk]; exact bits_mask t ok.nw)
    have H64 := Lib.hid (show s < 64 by rw [← hsk]; exact mask_64 t ok.nw)
    have HSK := Lib.hid hsk
    clear hsk ok
    go_enter Tryd.func39, Tryd.ntmps39
    go_wp2_with fail
    refine (askQ_any _ _ _ _ t _ _ hs HT.out).mono ?_
    rintro e w1 ⟨⟨_, hk⟩, hb1⟩
    obtain ⟨C, mp, rfl, hc, _, _⟩ := hk HAE.out
    rw [HSK.out] at hc
    have x1 := hc.box.lt
    have y1 := hc.box.cell 3 _ rfl
    have HB1 := Lib.hid hb1
    have hz1 := hb1.size
    simp only [World.size_alloc] at hz1
    clear hk hc hb1
    go_wp2_with fail
    refine (list_any s _ H64.out (HTB.out.mono HB1.out)).mono ?_
    rintro e w2 ⟨⟨v, rfl, hv⟩, hb2⟩
    rw [HBM.out] at hv
    have HV := Lib.hid (hv.lower (show w.heap.size ≤ w1.heap.size by omega))
    have HB2 := Lib.hid (bTrans HB1.out hb2)
    clear hv hb2
    go_wp2_with fail
    go_ret2
    exact ⟨⟨v, by rw [HE.out]; rfl, fun _ => HV.out, fun h => absurd HOK.out h⟩, bTrans HB.out HB2.out⟩
  · have HE := Lib.hid (Qt.err_bad ok)
    have HAE := Lib.hid (askErr_bad ok true)
    have HNO := Lib.hid ok
    clear ok
    go_enter Tryd.func39, Tryd.ntmps39
    go_wp2_with fail
    refine (askQ_any _ _ _ _ t _ _ hs HT.out).mono ?_
    rintro e w1 ⟨⟨hk, _⟩, hb1⟩
    obtain rfl := hk (by rw [HAE.out]; decide)
    rw [HAE.out]
    have HB1 := Lib.hid hb1
    clear hk hb1
    go_wp2_with fail
    go_ret2
    exact ⟨⟨_, by rw [HE.out]; rfl, fun h => absurd h HNO.out, fun _ => rfl⟩, bTrans HB.out HB1.out⟩
end Go.Proofs.YtchhodikgllgnaaDoor
/- The walk of span of the package quarrels, whatever function it is handed, by its contract. Conditions: a valid town; the listed table holds what it holds. -/
namespace Go.Proofs.YtchhodikgllgnaaDoor
open Go.RowKit Go.Sort
/-- the least and the greatest of the first k numbers -/
def spanN (g : Nat → Int) : Nat → Int × Int
  | 0 => (0, 0)
  | 1 => (g 0, g 0)
  | k + 2 => (min (spanN g (k + 1)).1 (g (k + 1)), max (spanN g (k + 1)).2 (g (k + 1)))
theorem OwnL.set {w : World} {base : Nat} {v : Value} {l : List Int} (h : OwnL w base v l) {b : Nat} (hb : b < base) (o : Nat) (u : Value) : OwnL (w.setCell ⟨b, o, none⟩ u) base v l :=
  ⟨h.1, h.2.imp id fun ⟨g, cap, cur, h1, h2, h3, h4⟩ => ⟨g, cap, cur, h1, h2, (Below.heap_setCell w ⟨b, o, none⟩ u g (by show g ≠ b; omega)).trans h3, h4⟩⟩
theorem leftL_at {t : Qt} {k : Nat} {x : Int} (h : t.leftL[k]? = some x) : ∃ i : Nat, x = (i : Int) ∧ i < t.nw ∧ t.leftB i = true := by
  obtain ⟨i, h1, h2, h3⟩ := (leftTo_mem t t.nw).1 (List.mem_of_getElem? h)
  exact ⟨i, h3, h1, h2⟩
set_option maxHeartbeats 4000000 in
set_option maxRecDepth 100000 in
theorem span_any (Aw Af : Option Addr) (cw cf C mp s : Nat) (t : Qt) (f : Nat) (cs : Array Value) (g : Nat → Int) (w : World) (hc : CourtAt w C Aw Af cw cf t s mp) (h64 : s < 64) (hbl : bitsL s = t.leftL) (hnw : t.nw ≤ 6) (hT : QAt w Aw Af t) (hB : TabAt w) (hcf : Enters f)
    (hf : ∀ k i : Nat, t.leftL[k]? = some (i : Int) → i < t.nw → ∀ w', Below w.heap.size w w' → ∀ (A' : Option Addr) (c' : Nat), RowsAt w' A' (t.world i) → Calls Tryd.prog f (#[.agg #[.slice A' (t.world i).n c']] ++ cs) w' fun e w'' => e = .returned (.int .i64 (g k)) ∧ Below w'.heap.size w' w'') :
    Calls Tryd.prog 85 #[.pointer (some ⟨C, 0, none⟩), .func (.func f) #[] cs] w fun e w' => e = .returned (.agg #[.int .i64 (spanN g t.leftL.length).1, .int .i64 (spanN g t.leftL.length).2]) ∧ Below w.heap.size w w' := by
  have hb2 := bAlloc (bAlloc (Below.refl w.heap.size w) (.cells #[.int .i64 0, .int .i64 0] 47)) (.cells #[.int .i64 0, .int .i64 0] 47)
  have HCT := Lib.hid hc
  have HT := Lib.hid hT
  have HTB := Lib.hid (hB.mono hb2)
  have HF := Lib.hid hf
  have x0 := hc.box.lt
  have y0 := hc.box.cell 3 _ rfl
  have HBL := Lib.hid hbl
  unfold Enters at hcf
  clear hc hT hB hf hb2 hbl
  go_enter Tryd.func85, Tryd.ntmps85
  go_wp2_with fail
  refine (list_any s _ h64 HTB.out).mono ?_
  rintro e w2 ⟨⟨v, rfl, hv⟩, hb2⟩
  rw [HBL.out] at hv
  obtain ⟨A, c, rfl, hrow⟩ := hv.nums
  have HV := Lib.hid (hv.lower (show w.heap.size + 2 ≤ _ by simp))
  have hbA := bTrans (bAlloc (Below.refl (w.alloc (.cells #[.int .i64 0, .int .i64 0] 47)).heap.size (w.alloc (.cells #[.int .i64 0, .int .i64 0] 47))) (.cells #[.int .i64 0, .int .i64 0] 47)) hb2
  have HBA := Lib.hid hbA
  have HX2 := Lib.hid (BoxAt.mono (BoxAt.two (w := (w.alloc (.cells #[.int .i64 0, .int .i64 0] 47)).alloc (.cells #[.int .i64 0, .int .i64 0] 47)) (a := w.heap.size + 1) (x := .int .i64 0) (y := .int .i64 0) (by simp) (by simp [go_sem]) (by simp [go_sem])) hb2)
  have HZ2 := Lib.hid (fun o => (hb2.frozen (p := ⟨w.heap.size + 1, o, none⟩) (by simp)).trans (by simp [go_sem]) : ∀ o, w2.frozen? ⟨w.heap.size + 1, o, none⟩ = false)
  obtain ⟨n, hn⟩ : ∃ n, t.leftL.length = n := ⟨_, rfl⟩
  have hn6 : n ≤ 6 := by have := leftTo_len t t.nw; unfold Qt.leftL at hn; omega
  rw [hn]
  have HN := Lib.hid hn
  clear hv hrow hb2 hbA hn y0
  go_wp2_with fail
  go_loopw [15] (fun i wr => ∃ k : Nat, i = .int .i64 k ∧ k ≤ n ∧ BoxAt wr (w.heap.size + 1) [.int .i64 (spanN g k).1, .int .i64 (spanN g k).2] ∧ (∀ o, wr.frozen? ⟨w.heap.size + 1, o, none⟩ = false) ∧ OwnL wr (w.heap.size + 2) (.slice A n c) t.leftL ∧ Below (w.heap.size + 1) (w.alloc (.cells #[.int .i64 0, .int .i64 0] 47)) wr) (fun i _ => n - (intOf i).toNat)
  case atStart => exact ⟨0, rfl, Nat.zero_le _, HX2.out, HZ2.out, HN.out ▸ HV.out, by have := HBA.out; simpa using this⟩
  case round =>
    obtain ⟨k, rfl, hk, hX, hZ, hO, hbel⟩ := hrel
    have HX := Lib.hid hX
    have HZ := Lib.hid hZ
    have HO := Lib.hid hO
    have HL := Lib.hid hbel
    have hbw : Below w.heap.size w wr := bTrans (bAlloc (Below.refl w.heap.size w) (.cells #[.int .i64 0, .int .i64 0] 47)) (by simpa using hbel)
    have HBW := Lib.hid hbw
    have hsz := hbel.size
    simp only [World.size_alloc] at hsz
    clear hX hZ hO hbel
    by_cases hlt : k < n
    · obtain ⟨x, hx⟩ : ∃ x, t.leftL[k]? = some x := ⟨_, List.getElem?_eq_getElem (by rw [HN.out]; exact hlt)⟩
      obtain ⟨i, rfl, hi, _⟩ := leftL_at hx
      obtain ⟨A1, c1, e1, hrow⟩ := HO.out.nums
      injection e1 with e1 e3 e2
      clear e3
      subst e1 e2
      obtain ⟨b, o, rfl, hbs, c0⟩ := hrow.num hx
      have hct := HCT.out.mono hbw
      have y1 := hct.box.cell 1 _ rfl
      have x1 := hct.box.lt
      rcases (HT.out.mono hbw).worlds with h0 | ⟨b2, o2, hA, hb2, hcell⟩
      · omega
      obtain ⟨A', c', d0, hr, _⟩ := hcell i hi
      obtain ⟨gk, hgk⟩ : ∃ gk, g k = gk := ⟨_, rfl⟩
      have HCC := Lib.hid (hgk ▸ HF.out k i hx hi wr hbw A' c' hr : Calls Tryd.prog f (#[.agg #[.slice A' (t.world i).n c']] ++ cs) wr fun e w'' => e = .returned (.int .i64 gk) ∧ Below wr.heap.size wr w'')
      have HGK := Lib.hid hgk
      have k1 : (k : Int) < (n : Int) := by omega
      have i1 : (i : Int) < (t.nw : Int) := by omega
      have i0 : (0 : Int) ≤ (i : Int) := by omega
      subst hA
      clear hrow hct hcell hr hgk hx hbw
      go_wp2_with fail
      refine HCC.out.mono ?_
      rintro e w4 ⟨rfl, hb4⟩
      have HX4 := Lib.hid (HX.out.mono hb4)
      have HZ4 := Lib.hid (fun o => (hb4.frozen (p := ⟨w.heap.size + 1, o, none⟩) HX.out.lt).trans (HZ.out o))
      have HO4 := Lib.hid (HO.out.mono hb4)
      have HL4 := Lib.hid (HL.out.trans (hb4.mono (by omega)))
      have u0 := HX4.out.lt
      have u1 := HX4.out.cell 0 _ rfl
      have u2 := HX4.out.cell 1 _ rfl
      have f0 := HZ4.out 0
      have f1 := HZ4.out 1
      clear hb4 c0 d0 y1 x1 hbs hb2
      rcases Nat.eq_zero_or_pos k with h0 | hpos
      · have k2 : ((k : Int) = 0) = True := by simp; omega
        have HR := Lib.hid (show spanN g (k + 1) = (gk, gk) by rw [h0, ← HGK.out, h0]; rfl)
        have g1 : ¬ gk < gk := by omega
        go_wp2_with fail
        go_roundw
        case rel =>
          have HB5 := ((HX4.out.put2 (.int .i64 gk) (.int .i64 gk)).put2 (.int .i64 gk) (.int .i64 gk))
          have hs1 : (spanN g (k + 1)).1 = gk := by rw [HR.out]
          have hs2 : (spanN g (k + 1)).2 = gk := by rw [HR.out]
          refine ⟨k + 1, ?_, by have := HN.out; omega, ?_, (frz_set (frz_set (frz_set (frz_set HZ4.out _ _) _ _) _ _) _ _), ((((HO4.out.set (b := w.heap.size + 1) (by omega) 0 (.int .i64 gk)).set (b := w.heap.size + 1) (by omega) 1 (.int .i64 gk)).set (b := w.heap.size + 1) (by omega) 0 (.int .i64 gk)).set (b := w.heap.size + 1) (by omega) 1 (.int .i64 gk)), (Below.setCell (p := ⟨w.heap.size + 1, 1, none⟩) (Below.setCell (p := ⟨w.heap.size + 1, 0, none⟩) (Below.setCell (p := ⟨w.heap.size + 1, 1, none⟩) (Below.setCell (p := ⟨w.heap.size + 1, 0, none⟩) HL4.out (by simp) (.int .i64 gk)) (by simp) (.int .i64 gk)) (by simp) (.int .i64 gk)) (by simp) (.int .i64 gk))⟩
          · go_num
          · rw [hs1, hs2]; exact HB5

        case measure => simp [intOf]; omega
      · have k2 : ((k : Int) = 0) = False := by simp; omega
        obtain ⟨m2, hm2⟩ : ∃ m2, (if gk < (spanN g k).1 then gk else (spanN g k).1) = m2 := ⟨_, rfl⟩
        obtain ⟨x2, hx2⟩ : ∃ x2, (if (spanN g k).2 < gk then gk else (spanN g k).2) = x2 := ⟨_, rfl⟩
        have HR := Lib.hid (show spanN g (k + 1) = (m2, x2) by
          obtain ⟨j, rfl⟩ : ∃ j, k = j + 1 := ⟨k - 1, by omega⟩
          rw [show spanN g (j + 1 + 1) = (min (spanN g (j + 1)).1 (g (j + 1)), max (spanN g (j + 1)).2 (g (j + 1))) from rfl, HGK.out, ← hm2, ← hx2]
          refine Prod.ext ?_ ?_
          · show min _ _ = _; split <;> omega
          · show max _ _ = _; split <;> omega)
        go_wp2_with fail
        go_roundw
        case rel =>
          have HB5 := (HX4.out.put2 (.int .i64 m2) (.int .i64 x2))
          have hs1 : (spanN g (k + 1)).1 = m2 := by rw [HR.out]
          have hs2 : (spanN g (k + 1)).2 = x2 := by rw [HR.out]
          refine ⟨k + 1, ?_, by have := HN.out; omega, ?_, (frz_set (frz_set HZ4.out _ _) _ _), ((HO4.out.set (b := w.heap.size + 1) (by omega) 0 (.int .i64 m2)).set (b := w.heap.size + 1) (by omega) 1 (.int .i64 x2)), (Below.setCell (p := ⟨w.heap.size + 1, 1, none⟩) (Below.setCell (p := ⟨w.heap.size + 1, 0, none⟩) HL4.out (by simp) (.int .i64 m2)) (by simp) (.int .i64 x2))⟩
          · go_num
          · rw [hs1, hs2]; exact HB5

        case measure => simp [intOf]; omega
    · obtain rfl : k = n := by omega
      have u1 := HX.out.cell 0 _ rfl
      have u2 := HX.out.cell 1 _ rfl
      have u0 := HX.out.lt
      have hA0 : w.heap.size < (w.alloc (.cells #[.int .i64 0, .int .i64 0] 47)).heap.size := by simp
      have v1 := fun o => (HL.out.cell (p := ⟨w.heap.size, o, none⟩) (by show w.heap.size < w.heap.size + 1; omega))
      have v2 := fun o => (HL.out.frozen (p := ⟨w.heap.size, o, none⟩) (by show w.heap.size < w.heap.size + 1; omega))
      have q0 := v1 0
      have q1 := v1 1
      have r0 := v2 0
      have r1 := v2 1
      simp [go_sem] at q0 q1 r0 r1
      go_wp2_with fail
      refine bodyPost_ret (v := .agg #[.int .i64 (spanN g t.leftL.length).1, .int .i64 (spanN g t.leftL.length).2]) (by simp [results, Tryd.results85, go_sem, HN.out, *]) rfl ⟨by rw [HN.out], ?_⟩
      exact Below.setCell (p := ⟨w.heap.size, 1, none⟩) (Below.setCell (p := ⟨w.heap.size, 0, none⟩) HBW.out (by simp) (.int .i64 (spanN g k).1)) (by simp) (.int .i64 (spanN g k).2)
end Go.Proofs.YtchhodikgllgnaaDoor
/- Walks of the package quarrels: the closures that read a fall (of Between, of harms), harms. Conditions: a valid town; the listed table holds what it holds. -/
namespace Go.Proofs.YtchhodikgllgnaaDoor
open Go.RowKit Go.Sort
set_option maxHeartbeats 2000000 in
theorem fallC_any (A : Option Addr) (c a d : Nat) (m : Int) (x : Wd) (p q : Nat) (w : World) (ok : x.Ok m) (hp : (p : Int) < m) (hq : (q : Int) < m) (hr : RowsAt w A x) (ha : a < w.heap.size) (hca : w.cell? ⟨a, 0, none⟩ = some (.int .i64 p)) (hd : d < w.heap.size) (hcd : w.cell? ⟨d, 0, none⟩ = some (.int .i64 q)) :
    Calls Tryd.prog 86 #[.agg #[.slice A x.n c], .pointer (some ⟨a, 0, none⟩), .pointer (some ⟨d, 0, none⟩)] w fun e w' => e = .returned (.int .i64 (x.fall p q)) ∧ Below w.heap.size w w' := by
  obtain ⟨b', o', b'', o'', c'', n, v, rfl, a2, a3, a4, a5, hv, v0, v1, hn⟩ := ok.at hr (p := p) (q := q) (by omega) hp (by omega) hq
  rw [Int.toNat_natCast] at a3
  rw [Int.toNat_natCast] at a5
  rw [Int.toNat_natCast, Int.toNat_natCast] at hv
  have HV := Lib.hid (show x.fall p q = v from hv.symm)
  obtain ⟨r, hr2⟩ : ∃ r, x.n = r := ⟨_, rfl⟩
  have hxn := ok.n
  rw [hr2] at hxn ⊢
  have p1 : (p : Int) < (r : Int) := by omega
  have p0 : (0 : Int) ≤ (p : Int) := by omega
  have q1 : (q : Int) < (n : Int) := by omega
  have q0 : (0 : Int) ≤ (q : Int) := by omega
  clear hv hn hxn hr2 hp hq ok hr
  go_enter Tryd.func86, Tryd.ntmps86
  go_wp2_with fail
  go_region
  go_wp2_with fail
  go_ret
  exact ⟨by rw [HV.out]; rfl, (bAlloc (Below.refl _ _) _).drew⟩
set_option maxHeartbeats 2000000 in
theorem fallH_any (A : Option Addr) (c a d : Nat) (m : Int) (x : Wd) (p q : Nat) (w : World) (ok : x.Ok m) (hp : (p : Int) < m) (hq : (q : Int) < m) (hr : RowsAt w A x) (ha : a < w.heap.size) (hca : w.cell? ⟨a, 0, none⟩ = some (.int .i64 p)) (hd : d < w.heap.size) (hcd : w.cell? ⟨d, 0, none⟩ = some (.int .i64 q)) :
    Calls Tryd.prog 121 #[.agg #[.slice A x.n c], .pointer (some ⟨a, 0, none⟩), .pointer (some ⟨d, 0, none⟩)] w fun e w' => e = .returned (.int .i64 (x.fall p q)) ∧ Below w.heap.size w w' := by
  obtain ⟨b', o', b'', o'', c'', n, v, rfl, a2, a3, a4, a5, hv, v0, v1, hn⟩ := ok.at hr (p := p) (q := q) (by omega) hp (by omega) hq
  rw [Int.toNat_natCast] at a3
  rw [Int.toNat_natCast] at a5
  rw [Int.toNat_natCast, Int.toNat_natCast] at hv
  have HV := Lib.hid (show x.fall p q = v from hv.symm)
  obtain ⟨r, hr2⟩ : ∃ r, x.n = r := ⟨_, rfl⟩
  have hxn := ok.n
  rw [hr2] at hxn ⊢
  have p1 : (p : Int) < (r : Int) := by omega
  have p0 : (0 : Int) ≤ (p : Int) := by omega
  have q1 : (q : Int) < (n : Int) := by omega
  have q0 : (0 : Int) ≤ (q : Int) := by omega
  clear hv hn hxn hr2 hp hq ok hr
  go_enter Tryd.func121, Tryd.ntmps121
  go_wp2_with fail
  go_region
  go_wp2_with fail
  go_ret
  exact ⟨by rw [HV.out]; rfl, (bAlloc (Below.refl _ _) _).drew⟩
/-- the numbers of a list -/
def numAt (l : List Int) (k : Nat) : Nat := (l[k]?.getD 0).toNat
theorem numAt_of {l : List Int} {k i : Nat} (h : l[k]? = some (i : Int)) : numAt l k = i := by unfold numAt; rw [h]; simp
/-- between what a fall is, of the worlds left -/
def Qt.between (t : Qt) (p q : Nat) : Int × Int := spanN (fun k => (t.world (numAt t.leftL k)).fall p q) t.leftL.length
/-- what is known of whether a fall is greater than a law -/
def harmK (s : Int × Int) (law : Int) : Int := if law < s.1 then 1 else if s.2 ≤ law then 2 else 3
set_option maxHeartbeats 2000000 in
theorem harmsC_any (Aw Af : Option Addr) (cw cf C mp s : Nat) (t : Qt) (p q : Nat) (law : Int) (w : World) (hc : CourtAt w C Aw Af cw cf t s mp) (h64 : s < 64) (hbl : bitsL s = t.leftL) (ok : t.Ok) (hp : (p : Int) < t.wells) (hq : (q : Int) < t.wells) (hT : QAt w Aw Af t) (hB : TabAt w) :
    Calls Tryd.prog 88 #[.pointer (some ⟨C, 0, none⟩), .int .i64 p, .int .i64 q, .int .i64 law] w fun e w' => e = .returned (.int .i64 (harmK (t.between p q) law)) ∧ Below w.heap.size w w' := by
  have hb2 := bAlloc (bAlloc (Below.refl w.heap.size w) (.cells #[.int .i64 p] 3)) (.cells #[.int .i64 q] 3)
  obtain ⟨lo, hlo⟩ : ∃ lo, (t.between p q).1 = lo := ⟨_, rfl⟩
  obtain ⟨hi, hhi⟩ : ∃ hi, (t.between p q).2 = hi := ⟨_, rfl⟩
  have HCS := Lib.hid (span_any Aw Af cw cf C mp s t 121 #[.pointer (some ⟨w.heap.size, 0, none⟩), .pointer (some ⟨w.heap.size + 1, 0, none⟩)] (fun k => (t.world (numAt t.leftL k)).fall p q) _ (hc.mono hb2) h64 hbl ok.nw (hT.mono hb2) (hB.mono hb2) (enters_of Tryd.func121 (by kernel_rfl)) (fun k i hk hi w' hb A' c' hr => by
    have h1 : w'.cell? ⟨w.heap.size, 0, none⟩ = some (.int .i64 p) := (hb.cell (p := ⟨w.heap.size, 0, none⟩) (by simp; omega)).trans (by simp [go_sem])
    have h2 : w'.cell? ⟨w.heap.size + 1, 0, none⟩ = some (.int .i64 q) := (hb.cell (p := ⟨w.heap.size + 1, 0, none⟩) (by simp)).trans (by simp [go_sem])
    have hz := hb.size
    simp only [World.size_alloc] at hz
    have := fallH_any A' c' w.heap.size (w.heap.size + 1) t.wells (t.world i) p q w' (ok.world i hi) hp hq hr (by omega) h1 (by omega) h2
    rw [← numAt_of hk] at this
    rw [← numAt_of hk]
    exact this))
  have HH := Lib.hid (show harmK (t.between p q) law = harmK (lo, hi) law by rw [← hlo, ← hhi])
  have HS := Lib.hid hb2
  have e1 : spanN (fun k => (t.world (numAt t.leftL k)).fall p q) t.leftL.length = (lo, hi) := Prod.ext hlo hhi
  rw [e1] at HCS
  clear hlo hhi e1 hc hT hB hb2 hbl
  by_cases h1 : law < lo
  · have HK := Lib.hid (show harmK (lo, hi) law = 1 by unfold harmK; simp [h1])
    go_enter Tryd.func88, Tryd.ntmps88
    go_wp2_with fail
    refine HCS.out.mono ?_
    rintro e w1 ⟨rfl, hb1⟩
    have HB1 := Lib.hid (bTrans HS.out hb1)
    clear hb1
    go_wp2_with fail
    go_ret
    exact ⟨by rw [HH.out, HK.out]; rfl, bAlloc HB1.out _⟩
  · by_cases h2 : hi ≤ law
    · have HK := Lib.hid (show harmK (lo, hi) law = 2 by unfold harmK; simp [h1, h2])
      go_enter Tryd.func88, Tryd.ntmps88
      go_wp2_with fail
      refine HCS.out.mono ?_
      rintro e w1 ⟨rfl, hb1⟩
      have HB1 := Lib.hid (bTrans HS.out hb1)
      clear hb1
      go_wp2_with fail
      go_ret
      exact ⟨by rw [HH.out, HK.out]; rfl, bAlloc HB1.out _⟩
    · have HK := Lib.hid (show harmK (lo, hi) law = 3 by unfold harmK; simp [h1, h2])
      go_enter Tryd.func88, Tryd.ntmps88
      go_wp2_with fail
      refine HCS.out.mono ?_
      rintro e w1 ⟨rfl, hb1⟩
      have HB1 := Lib.hid (bTrans HS.out hb1)
      clear hb1
      go_wp2_with fail
      go_ret
      exact ⟨by rw [HH.out, HK.out]; rfl, bAlloc HB1.out _⟩
end Go.Proofs.YtchhodikgllgnaaDoor
/- Lists of so many of some tests, in order; the first of the shortest of which something is so. Plain Lean. No condition. -/
namespace Go.Proofs.YtchhodikgllgnaaDoor
/-- a test: two wells -/
abbrev Tp := Nat × Nat
/-- all tests of m wells, in order -/
def testsL (m : Nat) : List Tp := (List.range m).flatMap fun p => (List.range m).map fun q => (p, q)
theorem testsL_mem {m : Nat} {x : Tp} : x ∈ testsL m ↔ x.1 < m ∧ x.2 < m := by
  unfold testsL
  obtain ⟨a, b⟩ := x
  simp only [List.mem_flatMap, List.mem_map, List.mem_range, Prod.mk.injEq]
  constructor
  · rintro ⟨p, hp, q, hq, rfl, rfl⟩
    exact ⟨hp, hq⟩
  · rintro ⟨h1, h2⟩
    exact ⟨a, h1, b, h2, rfl, rfl⟩
theorem flat_len {m : Nat} {f : Nat → List Tp} (h : ∀ p, (f p).length = m) : ∀ k, ((List.range k).flatMap f).length = k * m
  | 0 => by simp
  | k + 1 => by rw [List.range_succ, List.flatMap_append, List.length_append, flat_len h k, Nat.succ_mul]; simp [h]
theorem testsL_len (m : Nat) : (testsL m).length = m * m := flat_len (fun p => by simp) m
/-- all lists of k of some tests, the first one first -/
def listsL : List Tp → Nat → List (List Tp)
  | _, 0 => [[]]
  | [], _ + 1 => []
  | x :: l, k + 1 => (listsL l k).map (x :: ·) ++ listsL l (k + 1)
theorem listsL_zero (l : List Tp) : listsL l 0 = [[]] := by cases l <;> rfl
theorem listsL_mem {x : List Tp} : ∀ {l : List Tp} {k : Nat}, x ∈ listsL l k ↔ List.Sublist x l ∧ x.length = k
  | l, 0 => by
    rw [listsL_zero, List.mem_singleton]
    constructor
    · rintro rfl
      exact ⟨List.nil_sublist _, rfl⟩
    · rintro ⟨_, h⟩
      exact List.eq_nil_of_length_eq_zero h
  | [], k + 1 => by
    constructor
    · intro h
      cases h
    · rintro ⟨h1, h2⟩
      rw [List.sublist_nil.1 h1] at h2
      cases h2
  | y :: l, k + 1 => by
    have i1 := fun x => @listsL_mem x l k
    have i2 := @listsL_mem x l (k + 1)
    unfold listsL
    rw [List.mem_append, List.mem_map, i2]
    constructor
    · rintro (⟨z, hz, rfl⟩ | ⟨h1, h2⟩)
      · obtain ⟨a, b⟩ := (i1 z).1 hz
        exact ⟨a.cons_cons y, by simp [b]⟩
      · exact ⟨h1.cons y, h2⟩
    · rintro ⟨h1, h2⟩
      cases h1 with
      | cons _ h => exact .inr ⟨h, h2⟩
      | cons_cons _ h => exact .inl ⟨_, (i1 _).2 ⟨h, by simpa using h2⟩, rfl⟩
theorem listsL_all : ∀ l : List Tp, listsL l l.length = [l]
  | [] => rfl
  | x :: l => by
    show (listsL l l.length).map (x :: ·) ++ listsL l (l.length + 1) = _
    have h0 : listsL l (l.length + 1) = [] := List.eq_nil_iff_forall_not_mem.2 fun y hy => by
      obtain ⟨h1, h2⟩ := listsL_mem.1 hy
      have := h1.length_le
      omega
    rw [listsL_all l, h0]
    rfl
/-- the first list of a, a + 1 .. of some tests (n rounds) of which something is so -/
def firstUpTo (l : List Tp) (p : List Tp → Bool) : Nat → Nat → Option (List Tp)
  | _, 0 => none
  | a, n + 1 => match (listsL l a).find? p with
    | some x => some x
    | none => firstUpTo l p (a + 1) n
/-- the first of the shortest lists of some tests of which something is so; all of them, if of no shorter one -/
def fewestL (l : List Tp) (p : List Tp → Bool) : List Tp := (firstUpTo l p 0 l.length).getD l
theorem firstUpTo_snoc (l : List Tp) (p : List Tp → Bool) : ∀ n a, firstUpTo l p a (n + 1) = match firstUpTo l p a n with
    | some x => some x
    | none => (listsL l (a + n)).find? p
  | 0, a => by
    simp only [firstUpTo, Nat.add_zero]
    cases (listsL l a).find? p <;> rfl
  | n + 1, a => by
    have ih := firstUpTo_snoc l p n (a + 1)
    rw [show firstUpTo l p a (n + 1 + 1) = (match (listsL l a).find? p with | some x => some x | none => firstUpTo l p (a + 1) (n + 1)) from rfl, ih,
      show firstUpTo l p a (n + 1) = (match (listsL l a).find? p with | some x => some x | none => firstUpTo l p (a + 1) n) from rfl]
    cases (listsL l a).find? p with
    | some x => rfl
    | none => simp only [show a + 1 + n = a + (n + 1) by omega]
/-- what the program does: nothing at no list; all tests must do; then the shortest -/
theorem fewest_prog (l : List Tp) (p : List Tp → Bool) (h0 : p [] = false) (h1 : p l = true) : firstUpTo l p 1 l.length = some (fewestL l p) := by
  cases l with
  | nil => rw [h0] at h1; cases h1
  | cons x l =>
    have hn : (x :: l).length = l.length + 1 := rfl
    have e0 : firstUpTo (x :: l) p 0 (l.length + 1) = firstUpTo (x :: l) p 1 l.length := by
      show (match (listsL (x :: l) 0).find? p with | some x => some x | none => firstUpTo (x :: l) p (0 + 1) l.length) = _
      simp [listsL, h0]
    unfold fewestL
    rw [hn, e0, firstUpTo_snoc]
    cases firstUpTo (x :: l) p 1 l.length with
    | some y => rfl
    | none =>
      show (listsL (x :: l) (1 + l.length)).find? p = some (x :: l)
      rw [show 1 + l.length = (x :: l).length by simp; omega, listsL_all]
      simp [h1]
theorem fewest_nil (l : List Tp) (p : List Tp → Bool) (h0 : p [] = true) : fewestL l p = [] := by
  cases l with
  | nil => rfl
  | cons x l =>
    unfold fewestL
    show ((match (listsL (x :: l) 0).find? p with | some x => some x | none => firstUpTo (x :: l) p (0 + 1) l.length) : Option _).getD _ = _
    simp [listsL, h0]
theorem firstUpTo_spec (l : List Tp) (p : List Tp → Bool) : ∀ n a, (∀ x, firstUpTo l p a n = some x → List.Sublist x l ∧ p x = true ∧ a ≤ x.length ∧ x.length < a + n ∧ ∀ y, List.Sublist y l → p y = true → a ≤ y.length → x.length ≤ y.length) ∧
    (firstUpTo l p a n = none → ∀ y, List.Sublist y l → p y = true → a ≤ y.length → a + n ≤ y.length)
  | 0, a => ⟨(fun x h => by cases h), fun _ y _ _ h => by omega⟩
  | n + 1, a => by
    obtain ⟨i1, i2⟩ := firstUpTo_spec l p n (a + 1)
    rw [show firstUpTo l p a (n + 1) = (match (listsL l a).find? p with | some x => some x | none => firstUpTo l p (a + 1) n) from rfl]
    cases hf : (listsL l a).find? p with
    | some z =>
      refine ⟨fun x h => ?_, fun h => by cases h⟩
      obtain rfl : z = x := Option.some.inj h
      obtain ⟨h1, h2⟩ := listsL_mem.1 (List.mem_of_find?_eq_some hf)
      exact ⟨h1, List.find?_some hf, by omega, by omega, fun y _ _ hy => by omega⟩
    | none =>
      have hno : ∀ y, List.Sublist y l → p y = true → a ≤ y.length → a + 1 ≤ y.length := fun y h1 h2 h3 => by
        rcases Nat.eq_or_lt_of_le h3 with h4 | h4
        · have := List.find?_eq_none.1 hf y (listsL_mem.2 ⟨h1, h4.symm⟩)
          exact absurd h2 this
        · exact h4
      refine ⟨fun x h => ?_, fun h y h1 h2 h3 => ?_⟩
      · obtain ⟨a1, a2, a3, a4, a5⟩ := i1 x h
        exact ⟨a1, a2, by omega, by omega, fun y h1 h2 h3 => a5 y h1 h2 (hno y h1 h2 h3)⟩
      · have := i2 h y h1 h2 (hno y h1 h2 h3)
        omega
theorem fewest_spec (l : List Tp) (p : List Tp → Bool) (h1 : p l = true) : List.Sublist (fewestL l p) l ∧ p (fewestL l p) = true ∧ ∀ y, List.Sublist y l → p y = true → (fewestL l p).length ≤ y.length := by
  obtain ⟨a, b⟩ := firstUpTo_spec l p l.length 0
  unfold fewestL
  cases hf : firstUpTo l p 0 l.length with
  | some x =>
    obtain ⟨c1, c2, _, _, c5⟩ := a x hf
    exact ⟨c1, c2, fun y h3 h4 => c5 y h3 h4 (Nat.zero_le _)⟩
  | none => exact ⟨List.Sublist.refl _, h1, fun y h3 h4 => by have := b hf y h3 h4 (Nat.zero_le _); simp; omega⟩
theorem find_congr {α : Type} {p q : α → Bool} : ∀ {l : List α}, (∀ x, x ∈ l → p x = q x) → l.find? p = l.find? q
  | [], _ => rfl
  | x :: l, h => by
    rw [List.find?_cons, List.find?_cons, h x (by simp), find_congr (l := l) fun y hy => h y (by simp [hy])]
theorem firstUpTo_congr {l : List Tp} {p q : List Tp → Bool} (h : ∀ y, List.Sublist y l → p y = q y) : ∀ n a, firstUpTo l p a n = firstUpTo l q a n
  | 0, _ => rfl
  | n + 1, a => by
    unfold firstUpTo
    rw [find_congr (q := q) fun x hx => h x (listsL_mem.1 hx).1, firstUpTo_congr h n (a + 1)]
theorem fewest_congr {l : List Tp} {p q : List Tp → Bool} (h : ∀ y, List.Sublist y l → p y = q y) : fewestL l p = fewestL l q := by
  unfold fewestL
  rw [firstUpTo_congr h]
end Go.Proofs.YtchhodikgllgnaaDoor
