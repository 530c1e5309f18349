/- Parts joined: what all claims of this seat need. -/
import Derived.Test.YthnojgdckkdcgaaGreatDoorNSC
import Derived.Maps.Own
import Derived.Test.YthnojgdckkdcgaaGreatDoorNSB
set_option linter.unusedSimpArgs false
set_option linter.unusedVariables false
namespace Go.Proofs.YthnojgdckkdcgaaGreatDoor
open Go.RowKit Go.Sort
theorem withinQ_bb (n lo hi : Int) (b : Bool) (w : World) (h : inR n lo hi = b) : Calls Tryz.prog 112 #[.int .i64 n, .int .i64 lo, .int .i64 hi] w fun e w' => e = .returned (.bool b) ∧ Below w.heap.size w w' :=
  (withinQ_b n lo hi b w h).mono fun e w' ⟨he, hw⟩ => ⟨he, by rw [hw]; exact Below.refl _ _⟩
/-- a fall of a valid world: where it stands, and its bounds -/
theorem Wd.Ok.at {w : World} {A : Option Addr} {m : Int} {x : Wd} (ok : x.Ok m) (hr : RowsAt w A x) {p q : Int} (p0 : 0 ≤ p) (p1 : p < m) (q0 : 0 ≤ q) (q1 : q < m) :
    ∃ b' o' b'' o'' c'' k v, A = some ⟨b', o', none⟩ ∧ b' < w.heap.size ∧ w.cell? ⟨b', o' + p.toNat, none⟩ = some (.slice (some ⟨b'', o'', none⟩) k c'') ∧ b'' < w.heap.size ∧ w.cell? ⟨b'', o'' + q.toNat, none⟩ = some (.int .i64 v) ∧
      v = x.fall p.toNat q.toNat ∧ 0 ≤ v ∧ v ≤ 9 ∧ (k : Int) = m := by
  have hk : p.toNat < x.n := by have := ok.n; omega
  have hl := ok.len _ hk
  have hj : q.toNat < x.len p.toNat := by omega
  rcases hr with h0 | ⟨b', o', rfl, hlt', hc'⟩
  · omega
  · obtain ⟨A'', c'', h3, h4, _⟩ := hc' _ hk
    obtain ⟨b'', o'', rfl, hlt'', h5⟩ := h4.get hj
    have hf := ok.fall _ hk _ hj
    exact ⟨b', o', b'', o'', c'', _, _, rfl, hlt', h3, hlt'', h5, rfl, hf.1, hf.2, hl⟩
set_option maxHeartbeats 4000000 in
set_option maxRecDepth 100000 in
theorem agreesQ_any (A : Option Addr) (c : Nat) (m : Int) (x : Wd) (f : Fact) (w : World) (ok : x.Ok m) (hf : f.Ok m) (hr : RowsAt w A x) :
    Calls Tryz.prog 150 #[.agg #[.slice A x.n c], .agg #[.int .i64 f.from_, .int .i64 f.many, .int .i64 f.to_, .int .i64 f.low, .int .i64 f.high]] w fun e w' => e = .returned (.bool (x.agrees f)) ∧ Below w.heap.size w w' := by
  obtain ⟨b', o', b'', o'', c'', kk, v, rfl, a4, a5, a6, a7, hv, v0, v1, hm⟩ := ok.at hr hf.f0 hf.f1 hf.t0 hf.t1
  obtain ⟨p, hp⟩ : ∃ p : Nat, f.from_ = (p : Int) := ⟨f.from_.toNat, by have := hf.f0; omega⟩
  obtain ⟨q, hq⟩ : ∃ q : Nat, f.to_ = (q : Int) := ⟨f.to_.toNat, by have := hf.t0; omega⟩
  obtain ⟨k, hk⟩ : ∃ k, f.many = k := ⟨_, rfl⟩
  have k0 := hf.m0
  have k1 := hf.m1
  have hp1 := hf.f1
  have hq1 := hf.t1
  have hxn := ok.n
  rw [hk] at k0 k1
  have hpp : f.from_.toNat = p := by omega
  have hqq : f.to_.toNat = q := by omega
  rw [hpp] at a5 hv
  rw [hqq] at a7 hv
  have hbd := mul_bd v0 v1 (by omega : 0 ≤ k) k1
  obtain ⟨r, hrr⟩ : ∃ r, inR (v * k) f.low f.high = r := ⟨_, rfl⟩
  have HR := Lib.hid hrr
  have HE := Lib.hid (show x.agrees f = r by unfold Wd.agrees; rw [hpp, hqq, ← hv, hk, hrr])
  have HB := Lib.hid (bAlloc (bAlloc (Below.refl w.heap.size w) (.cells #[.slice (some ⟨b', o', none⟩) x.n c] 101)) (.cells #[.int .i64 p, .int .i64 k, .int .i64 q, .int .i64 f.low, .int .i64 f.high] 27))
  rw [hp, hq, hk]
  rw [hp] at hp1
  rw [hq] at hq1
  have p1 : (p : Int) < (x.n : Int) := by omega
  have p0 : (0 : Int) ≤ (p : Int) := by omega
  have q1 : (q : Int) < (kk : Int) := by omega
  have q0 : (0 : Int) ≤ (q : Int) := by omega
  have a4' : b' < w.heap.size + 1 + 1 := by omega
  have a6' : b'' < w.heap.size + 1 + 1 := by omega
  have HBD := Lib.hid hbd
  clear hf hr hrr hv hp hq hk hm hpp hqq hbd ok hp1 hq1 hxn
  have e1 : IntKind.i64.wrap (v * k) = v * k := IntWalk.i64_in _ (by have := HBD.out; omega)
  go_enter Tryz.func150, Tryz.ntmps150
  go_wp2_with fail
  refine wp_region_quiet_below (by kernel_rfl) (by kernel_rfl) ?_
  repeat (go_big_quiet_step ((go_at_call 112; exact Calls.regrown_of (withinQ_bb _ _ _ _ _ HR.out))))
  refine wpQuiet_nil ?_
  intro w9 hw9
  have HB9 := Lib.hid (below_of_regrown hw9)
  clear hw9 e1
  go_wp2_with fail
  go_ret
  exact ⟨by rw [HE.out]; rfl, bTrans HB.out HB9.out⟩
theorem ask1_any (A : Option Addr) (c a : Nat) (m : Int) (x : Wd) (f : Fact) (w : World) (ok : x.Ok m) (hf : f.Ok m) (hr : RowsAt w A x) (hX : BoxAt w a [.slice A x.n c]) :
    Calls Tryz.prog 149 #[.agg #[.int .i64 f.from_, .int .i64 f.many, .int .i64 f.to_, .int .i64 f.low, .int .i64 f.high], .pointer (some ⟨a, 0, none⟩)] w fun e w' => e = .returned (.bool (!x.agrees f)) ∧ Below w.heap.size w w' := by
  have hb0 := bAlloc (Below.refl w.heap.size w) (.cells #[.int .i64 f.from_, .int .i64 f.many, .int .i64 f.to_, .int .i64 f.low, .int .i64 f.high] 27)
  have HB := Lib.hid hb0
  have HR := Lib.hid (hr.mono hb0)
  have HOK := Lib.hid ok
  have HFO := Lib.hid hf
  have x0 := hX.lt
  have y0 := hX.cell 0 _ rfl
  clear hb0 hr hX ok hf
  go_enter Tryz.func149, Tryz.ntmps149
  go_wp2_with fail
  refine (agreesQ_any A c m x f _ HOK.out HFO.out HR.out).mono ?_
  rintro e w1 ⟨rfl, hb1⟩
  go_wp2_with fail
  go_ret
  exact ⟨rfl, bTrans HB.out hb1⟩
end Go.Proofs.YthnojgdckkdcgaaGreatDoor

namespace Go.Proofs.YthnojgdckkdcgaaGreatDoor
open Go.RowKit Go.Sort
/-- the worlds that are left, of the first k: a bit for each of them -/
def Qt.maskTo (t : Qt) : Nat → Nat
  | 0 => 0
  | k + 1 => if t.leftB k then t.maskTo k ||| 2 ^ k else t.maskTo k
theorem maskTo_lt (t : Qt) : ∀ k, t.maskTo k < 2 ^ k
  | 0 => by simp [Qt.maskTo]
  | k + 1 => by
    have ih := maskTo_lt t k
    have h2 : (2 : Nat) ^ (k + 1) = 2 ^ k + 2 ^ k := by rw [Nat.pow_succ]; omega
    unfold Qt.maskTo
    split
    · exact Nat.or_lt_two_pow (by omega) (by omega)
    · omega
theorem wrapU (n : Nat) (h : n < 18446744073709551616) : IntKind.u64.wrap (n : Int) = n := by
  simp [IntKind.wrap, IntKind.bits, IntKind.signed]
  omega
theorem shlW (k : Nat) (hk : k < 6) : IntKind.u64.wrap ((2 : Int) ^ k) = ((2 ^ k : Nat) : Int) := by
  rcases (by omega : k = 0 ∨ k = 1 ∨ k = 2 ∨ k = 3 ∨ k = 4 ∨ k = 5) with rfl | rfl | rfl | rfl | rfl | rfl <;> rfl
theorem orW (a b : Nat) (ha : a < 64) (hb : b < 64) : bits BinOp.or IntKind.u64 (a : Int) (b : Int) = ((a ||| b : Nat) : Int) := by
  have h : (BitVec.ofInt 64 (a : Int) ||| BitVec.ofInt 64 (b : Int)).toNat = a ||| b := by
    rw [BitVec.ofInt_natCast, BitVec.ofInt_natCast, BitVec.toNat_or, BitVec.toNat_ofNat, BitVec.toNat_ofNat, Nat.mod_eq_of_lt (by omega), Nat.mod_eq_of_lt (by omega)]
  have hlt : a ||| b < 2 ^ 6 := Nat.or_lt_two_pow ha hb
  have hw := wrapU (a ||| b) (by omega)
  rw [← hw, ← h]
  rfl
/-- a court: a town, the worlds that are left, a map -/
structure CourtAt (w : World) (C : Nat) (Aw Af : Option Addr) (cw cf : Nat) (t : Qt) (s mp : Nat) : Prop where
  box : BoxAt w C [.int .i64 t.wells, .slice Aw t.nw cw, .slice Af t.nf cf, .int .u64 (s : Int), .map (some mp)]
  frz : ∀ o, w.frozen? ⟨C, o, none⟩ = false
theorem CourtAt.mono {w w' : World} {C : Nat} {Aw Af : Option Addr} {cw cf : Nat} {t : Qt} {s mp : Nat} (h : CourtAt w C Aw Af cw cf t s mp) (hb : Below w.heap.size w w') : CourtAt w' C Aw Af cw cf t s mp :=
  ⟨h.box.mono hb, fun o => (hb.frozen (p := ⟨C, o, none⟩) h.box.lt).trans (h.frz o)⟩
theorem CourtAt.left {w : World} {C : Nat} {Aw Af : Option Addr} {cw cf : Nat} {t : Qt} {s mp : Nat} (h : CourtAt w C Aw Af cw cf t s mp) (s' : Nat) : CourtAt (w.setCell ⟨C, 3, none⟩ (.int .u64 (s' : Int))) C Aw Af cw cf t s' mp := by
  have o : ∀ i, i ≠ 3 → ∀ v, w.cell? ⟨C, i, none⟩ = some v → (w.setCell ⟨C, 3, none⟩ (.int .u64 (s' : Int))).cell? ⟨C, i, none⟩ = some v := fun i hi v hv => (World.cell?_setCell_other _ _ _ _ (fun e => by injection e with _ e; exact hi e.symm)).trans hv
  exact ⟨BoxAt.five (by simpa [World.setCell] using h.box.lt) (o 0 (by decide) _ (h.box.cell 0 _ rfl)) (o 1 (by decide) _ (h.box.cell 1 _ rfl)) (o 2 (by decide) _ (h.box.cell 2 _ rfl)) (World.cell?_setCell_same _ _ _ (h.box.cell 3 _ rfl)) (o 4 (by decide) _ (h.box.cell 4 _ rfl)), fun o => by rw [World.frozen?_setCell]; exact h.frz o⟩
/-- what ask hands back, of a valid town -/
def AskOk (w : World) (base : Nat) (Aw Af : Option Addr) (cw cf : Nat) (t : Qt) (e : Ending) : Prop := ∃ C mp, e = .returned (.tuple #[.pointer (some ⟨C, 0, none⟩), .int .i64 0]) ∧ CourtAt w C Aw Af cw cf t (t.maskTo t.nw) mp ∧ base ≤ C ∧ w.heap[mp]? = some (.map #[] 0) ∧ base ≤ mp
set_option maxHeartbeats 4000000 in
set_option maxRecDepth 100000 in
theorem askQ_ok (Aw Af : Option Addr) (cw cf : Nat) (t : Qt) (w : World) (ok : t.Ok) (hlen : ∀ i, i < t.nw → ∀ k, k < (t.world i).n → (t.world i).len k ≤ 9223372036854775807) (hT : QAt w Aw Af t) :
    Calls Tryz.prog 111 #[.agg #[.int .i64 t.wells, .slice Aw t.nw cw, .slice Af t.nf cf], .bool true] w fun e w' => AskOk w' w.heap.size Aw Af cw cf t e ∧ Below w.heap.size w w' := by
  have hb0 := bAlloc (Below.refl w.heap.size w) (.cells #[.int .i64 t.wells, .slice Aw t.nw cw, .slice Af t.nf cf] 25)
  have HT := Lib.hid (hT.mono hb0)
  have HB := Lib.hid hb0
  have HOK := Lib.hid ok
  have HLEN := Lib.hid hlen
  have HE := Lib.hid (Qt.err_ok ok)
  have nw6 := ok.nw
  have nf6 := ok.nf
  clear hT hb0 ok hlen
  have hmm := @run_makeMap Tryz.prog
  go_enter Tryz.func111, Tryz.ntmps111
  go_wp2_with fail
  refine (checkQ_any _ _ _ _ t _ (by omega) (by omega) HLEN.out HT.out).mono ?_
  rintro e w1 ⟨he, hb1⟩
  rw [HE.out] at he
  subst he
  have HB1 := Lib.hid hb1
  obtain ⟨bc1, bf1⟩ := bcell hb1
  have hz1 := hb1.size
  simp only [World.size_alloc] at hz1
  have hy1 : w.heap.size < w1.heap.size := hz1
  clear hb1
  go_wp2_with fail
  clear hmm
  have HC1 := Lib.hid (show CourtAt ((w1.alloc (.map #[] 0)).alloc (.cells #[.int .i64 t.wells, .slice Aw t.nw cw, .slice Af t.nf cf, .int .u64 0, .map (some w1.heap.size)] 172)) (w1.heap.size + 1) Aw Af cw cf t (t.maskTo 0) w1.heap.size from ⟨BoxAt.five (by simp) (by simp [go_sem]) (by simp [go_sem]) (by simp [go_sem]) (by simp [go_sem, Qt.maskTo]) (by simp [go_sem]), fun o => by simp [go_sem]⟩)
  have HBC := Lib.hid (show Below (w.alloc (.cells #[.int .i64 t.wells, .slice Aw t.nw cw, .slice Af t.nf cf] 25)).heap.size (w.alloc (.cells #[.int .i64 t.wells, .slice Aw t.nw cw, .slice Af t.nf cf] 25)) ((w1.alloc (.map #[] 0)).alloc (.cells #[.int .i64 t.wells, .slice Aw t.nw cw, .slice Af t.nf cf, .int .u64 0, .map (some w1.heap.size)] 172)) from bAlloc (bAlloc HB1.out _) _)
  have HMP := Lib.hid (show ((w1.alloc (.map #[] 0)).alloc (.cells #[.int .i64 t.wells, .slice Aw t.nw cw, .slice Af t.nf cf, .int .u64 0, .map (some w1.heap.size)] 172)).heap[w1.heap.size]? = some (.map #[] 0) from ((bAlloc (Below.refl _ _) _).block w1.heap.size (by simp)).trans (heap_alloc_new _ _))
  clear bc1 bf1
  go_loopw [24] (fun i wr => ∃ k : Nat, i = .int .i64 k ∧ k ≤ t.nw ∧ CourtAt wr (w1.heap.size + 1) Aw Af cw cf t (t.maskTo k) w1.heap.size ∧ wr.heap[w1.heap.size]? = some (.map #[] 0) ∧ Below (w.alloc (.cells #[.int .i64 t.wells, .slice Aw t.nw cw, .slice Af t.nf cf] 25)).heap.size (w.alloc (.cells #[.int .i64 t.wells, .slice Aw t.nw cw, .slice Af t.nf cf] 25)) wr) (fun i _ => t.nw - (intOf i).toNat)
  case atStart => exact ⟨0, rfl, Nat.zero_le _, HC1.out, HMP.out, HBC.out⟩
  case round =>
    obtain ⟨k, rfl, hk, hc, hm, hbel⟩ := hrel
    have HC2 := Lib.hid hc
    have HM2 := Lib.hid hm
    have HL3 := Lib.hid hbel
    obtain ⟨bc3, bf3⟩ := bcell hbel
    have hz3 := hbel.size
    simp only [World.size_alloc] at hz3
    have hy3 : w.heap.size < wr.heap.size := hz3
    clear hbel hc hm
    by_cases hlt : k < t.nw
    · rcases (HT.out.mono HL3.out).worlds with h0 | ⟨b, o, hA, hb, hcell⟩
      · omega
      obtain ⟨A', c', c0, hrow, _⟩ := hcell k hlt
      have HR := Lib.hid (hrow.mono (bAlloc (Below.refl wr.heap.size wr) (.cells #[.slice A' (t.world k).n c'] 101)))
      have HX := Lib.hid (BoxAt.one (w := wr.alloc (.cells #[.slice A' (t.world k).n c'] 101)) (a := wr.heap.size) (x := .slice A' (t.world k).n c') (by simp) (by simp [go_sem]))
      have k1 : (k : Int) < (t.nw : Int) := by omega
      have HK := Lib.hid hlt
      clear hcell hrow
      obtain ⟨bk, hbk⟩ : ∃ bk, t.leftB k = bk := ⟨_, rfl⟩
      have HBK := Lib.hid hbk
      have HCN := Lib.hid ((show (!anyB (fun j => !(t.world k).agrees (t.fact j)) t.nf) = bk from hbk) ▸ none_fact Af t.nf cf 149 #[.pointer (some ⟨wr.heap.size, 0, none⟩)] t.fact (fun j => !(t.world k).agrees (t.fact j)) (wr.alloc (.cells #[.slice A' (t.world k).n c'] 101)) (by omega) ((HT.out.mono HL3.out).mono (bAlloc (Below.refl _ _) _)).facts (enters_of Tryz.func149 (by kernel_rfl))
        (fun j hj w' hb' => ask1_any A' c' wr.heap.size t.wells (t.world k) (t.fact j) w' (HOK.out.world k HK.out) (HOK.out.fact j hj) (HR.out.mono hb') (HX.out.mono hb')) :
        Calls Tryz.prog 148 #[.slice Af t.nf cf, .func (.func 149) #[] #[.pointer (some ⟨wr.heap.size, 0, none⟩)]] (wr.alloc (.cells #[.slice A' (t.world k).n c'] 101)) fun e w' => e = .returned (.bool bk) ∧ Below (wr.alloc (.cells #[.slice A' (t.world k).n c'] 101)).heap.size (wr.alloc (.cells #[.slice A' (t.world k).n c'] 101)) w')
      clear hbk
      subst hA
      go_wp2_with fail
      refine HCN.out.mono ?_
      rintro e w4 ⟨rfl, hb4⟩
      have hb4 := bTrans (bAlloc (Below.refl wr.heap.size wr) _) hb4
      have HC4 := Lib.hid (HC2.out.mono hb4)
      have HM4 := Lib.hid ((hb4.block w1.heap.size (Array.getElem?_eq_some_iff.1 HM2.out).1).trans HM2.out)
      have HL4 := Lib.hid (bTrans HL3.out hb4)
      clear hb4 c0 hb bc3 bf3
      cases bk
      · have HS := Lib.hid (show t.maskTo (k + 1) = t.maskTo k by
          show (if t.leftB k then t.maskTo k ||| 2 ^ k else t.maskTo k) = _
          rw [if_neg (by rw [HBK.out]; decide)])
        go_wp2_with fail
        go_roundw
        case rel =>
          first
          | exact ⟨k + 1, by go_num, by omega, by rw [HS.out]; exact HC4.out, HM4.out, HL4.out⟩
          | ((repeat apply Exists.intro)
             refine ⟨⟨k + 1, ?_, by omega, by rw [HS.out]; exact HC4.out, HM4.out, HL4.out⟩, rfl⟩
             go_num)
        case measure => simp [intOf]; omega
      · have HS := Lib.hid (show t.maskTo (k + 1) = t.maskTo k ||| 2 ^ k by
          show (if t.leftB k then t.maskTo k ||| 2 ^ k else t.maskTo k) = _
          rw [if_pos HBK.out])
        obtain ⟨s, hs⟩ : ∃ s, t.maskTo k = s := ⟨_, rfl⟩
        obtain ⟨p, hp⟩ : ∃ p, 2 ^ k = p := ⟨_, rfl⟩
        obtain ⟨q, hq⟩ : ∃ q, s ||| p = q := ⟨_, rfl⟩
        have HQ := Lib.hid (show t.maskTo (k + 1) = q by rw [HS.out, hs, hp, hq])
        have hshl : IntKind.u64.wrap ((2 : Int) ^ k) = (p : Int) := by
          rw [← hp]
          exact shlW k (by omega)
        have h64 : (2 : Nat) ^ k ≤ 2 ^ 5 := Nat.pow_le_pow_right (by decide) (by omega)
        have hs64 : s < 64 := by have := maskTo_lt t k; rw [hs] at this; omega
        have hor : bits BinOp.or IntKind.u64 (s : Int) (p : Int) = (q : Int) := by
          rw [← hq]
          exact orW s p hs64 (by omega)
        have hc4 := HC4.out
        rw [hs] at hc4
        have HCS := Lib.hid hc4
        have x4 := hc4.box.lt
        have y4 := hc4.box.cell 3 _ rfl
        have z4 := hc4.frz 3
        clear hs hp hq h64 hs64 hc4
        go_wp2_with fail
        refine wp_region_vals 9 [.pointer (some ⟨w1.heap.size + 1, 0, none⟩), .pointer (some ⟨w1.heap.size + 1, 0, none⟩), .pointer (some ⟨w1.heap.size + 1, 3, none⟩), .int .u64 s, .int .i64 k, .int .u64 p, .int .u64 q, .pointer (some ⟨w1.heap.size + 1, 0, none⟩), .pointer (some ⟨w1.heap.size + 1, 3, none⟩)] (by kernel_rfl) (by kernel_rfl) rfl ?_
        simp only [List.map_cons, List.map_nil]
        iterate 9 refine wpStir_const (by go_simp) ?_
        refine wpStir_end (fun w5 hb5 hd => ?_)
        clear hd
        simp only [List.drop_succ_cons, List.drop_zero]
        simp only [Act.put, List.setIfInBounds_toArray, List.set_cons_succ, List.set_cons_zero]
        have hc5 := HCS.out.mono hb5
        have hm5 := (hb5.block w1.heap.size (Array.getElem?_eq_some_iff.1 HM4.out).1).trans HM4.out
        have HC6 := Lib.hid (hc5.left q)
        have HL6 := Lib.hid (Below.setCell (p := ⟨w1.heap.size + 1, 3, none⟩) (bTrans HL4.out hb5) (by simp; omega) (.int .u64 (q : Int)))
        have HM6 := Lib.hid ((Below.heap_setCell w5 ⟨w1.heap.size + 1, 3, none⟩ (.int .u64 (q : Int)) w1.heap.size (by show w1.heap.size ≠ w1.heap.size + 1; omega)).trans hm5)
        have x5 := hc5.box.lt
        have y5 := hc5.box.cell 3 _ rfl
        have z5 := hc5.frz 3
        clear hb5 hc5 hm5 x4 y4 z4 hshl hor
        go_wp2_with fail
        go_roundw
        case rel =>
          first
          | exact ⟨k + 1, by go_num, by omega, by rw [HQ.out]; exact HC6.out, HM6.out, HL6.out⟩
          | ((repeat apply Exists.intro)
             refine ⟨⟨k + 1, ?_, by omega, by rw [HQ.out]; exact HC6.out, HM6.out, HL6.out⟩, rfl⟩
             go_num)
        case measure => simp [intOf]; omega
    · obtain rfl : k = t.nw := by omega
      go_wp2_with fail
      go_ret2
      exact ⟨⟨_, _, rfl, HC2.out, by omega, HM2.out, by omega⟩, bTrans HB.out HL3.out⟩
end Go.Proofs.YthnojgdckkdcgaaGreatDoor

namespace Go.Proofs.YthnojgdckkdcgaaGreatDoor
open Go.RowKit Go.Sort
/-- the place of the lowest bit of a number below 64 -/
def lowB (s : Nat) : Nat := if s % 2 = 1 then 0 else if s / 2 % 2 = 1 then 1 else if s / 4 % 2 = 1 then 2 else if s / 8 % 2 = 1 then 3 else if s / 16 % 2 = 1 then 4 else 5
/-- what is read of the table of math/bits -/
structure TabAt (w : World) : Prop where
  lt : 2 < w.heap.size
  cell : ∀ j : Nat, j < 6 → w.cell? ⟨2, 2 ^ j - 1, none⟩ = some (.int .u8 (j : Int))
theorem TabAt.mono {w w' : World} (h : TabAt w) (hb : Below w.heap.size w w') : TabAt w' :=
  ⟨Nat.lt_of_lt_of_le h.lt hb.size, fun j hj => (hb.cell (p := ⟨2, _, none⟩) h.lt).trans (h.cell j hj)⟩
theorem lowB_and : ∀ s : Nat, s < 64 → 0 < s → bits BinOp.and IntKind.u64 (s : Int) (IntKind.u64.wrap (-(s : Int))) = ((2 ^ lowB s : Nat) : Int) := by decide +kernel
theorem lowB_lt (s : Nat) : lowB s < 6 := by unfold lowB; (repeat' split) <;> omega
set_option maxHeartbeats 4000000 in
set_option maxRecDepth 100000 in
theorem tz64_any (s : Nat) (w : World) (h0 : 0 < s) (h1 : s < 64) (hT : TabAt w) :
    Calls Tryz.prog 185 #[.int .u64 s] w fun e w' => e = .returned (.int .i64 (lowB s : Int)) ∧ w = w' := by
  have hand := lowB_and s h1 h0
  have g0 : ((s : Int) == 0) = false := beq_eq_false_iff_ne.2 (by omega)
  have hlt := hT.lt
  have hj := lowB_lt s
  obtain ⟨j, hjj⟩ : ∃ j, lowB s = j := ⟨_, rfl⟩
  rw [hjj] at hand hj ⊢
  have c0 := hT.cell j hj
  clear hT hjj
  rcases (by omega : j = 0 ∨ j = 1 ∨ j = 2 ∨ j = 3 ∨ j = 4 ∨ j = 5) with rfl | rfl | rfl | rfl | rfl | rfl
  all_goals
    simp only [Nat.reducePow, Nat.reduceSub, Int.cast_ofNat_Int] at hand c0
    go_enter Tryz.func185, Tryz.ntmps185
    go_wp2_with fail
    go_ret
    exact ⟨rfl, rfl⟩
theorem tz_any (s : Nat) (w : World) (h0 : 0 < s) (h1 : s < 64) (hT : TabAt w) :
    Calls Tryz.prog 151 #[.int .u64 s] w fun e w' => e = .returned (.int .i64 (lowB s : Int)) ∧ w = w' := by
  have HT := Lib.hid hT
  clear hT
  go_enter Tryz.func151, Tryz.ntmps151
  go_wp2_with fail
  refine (tz64_any s _ h0 h1 HT.out).mono ?_
  rintro e w' ⟨rfl, rfl⟩
  go_wp2_with fail
  go_ret
  exact ⟨rfl, rfl⟩
/-- the bits of a number below 64, the least one first -/
def bitsL (s : Nat) : List Int := selTo (fun j => s.testBit j) 6
def clr (s : Nat) : Nat := s &&& (s - 1)
theorem bitsL_step : ∀ s : Nat, s < 64 → 0 < s → bitsL s = (lowB s : Int) :: bitsL (clr s) := by decide +kernel
theorem clr_lt : ∀ s : Nat, s < 64 → 0 < s → clr s < s := by decide +kernel
theorem clr_and : ∀ s : Nat, s < 64 → 0 < s → bits BinOp.and IntKind.u64 (s : Int) (IntKind.u64.wrap ((s : Int) - 1)) = (clr s : Int) := by decide +kernel
theorem clr_and2 : ∀ s : Nat, s < 64 → 0 < s → bits BinOp.and IntKind.u64 (s : Int) ((s : Int) - 1) = (clr s : Int) := by decide +kernel
theorem bitsL_zero : bitsL 0 = [] := by decide +kernel
theorem bitsL_len (s : Nat) : (bitsL s).length ≤ 6 := selTo_len _ 6
/-- what list hands back -/
def ListOut (w : World) (base s : Nat) (e : Ending) : Prop := ∃ v, e = .returned v ∧ OwnL w base v (bitsL s)
set_option maxHeartbeats 4000000 in
set_option maxRecDepth 100000 in
theorem list_any (s : Nat) (w : World) (hs : s < 64) (hT : TabAt w) :
    Calls Tryz.prog 113 #[.int .u64 s] w fun e w' => ListOut w' w.heap.size s e ∧ Below w.heap.size w w' := by
  have HT := Lib.hid hT
  clear hT
  go_enter Tryz.func113, Tryz.ntmps113
  go_wp2_with fail
  go_loopw [0, 3] (fun x v wr => ∃ (r : Nat) (l : List Int), x = .int .u64 r ∧ r ≤ s ∧ l ++ bitsL r = bitsL s ∧ OwnL wr w.heap.size v l ∧ Below w.heap.size w wr) (fun x _ _ => (intOf x).toNat)
  case atStart => exact ⟨s, [], rfl, Nat.le_refl _, rfl, OwnL.nil _ _, Below.refl _ _⟩
  case round =>
    obtain ⟨r, l, rfl, hr, hl, hown, hbel⟩ := hrel
    have HLL := Lib.hid hl
    have HO := Lib.hid hown
    have HL3 := Lib.hid hbel
    have hz3 := hbel.size
    clear hl hown hbel
    by_cases h0 : 0 < r
    · have g0 : ((r : Int) != 0) = true := bne_iff_ne.2 (by omega)
      have hc1 := clr_and r (by omega) h0
      have hc2 := clr_and2 r (by omega) h0
      have HCL := Lib.hid (clr_lt r (by omega) h0)
      have HST := Lib.hid (bitsL_step r (by omega) h0)
      have HLEN := Lib.hid (show l.length ≤ 1000 by
        have := congrArg List.length HLL.out
        rw [List.length_append] at this
        have := bitsL_len s
        omega)
      obtain ⟨q, hq⟩ : ∃ q, clr r = q := ⟨_, rfl⟩
      obtain ⟨j, hj⟩ : ∃ j, lowB r = j := ⟨_, rfl⟩
      rw [hq] at hc1 hc2
      have HQ := Lib.hid hq
      have HJ := Lib.hid hj
      clear hq hj
      go_wp2_with fail
      refine (tz_any r _ h0 (by omega) (HT.out.mono HL3.out)).mono ?_
      rintro e w' ⟨he, rfl⟩
      rw [HJ.out] at he
      subst he
      go_wp2_with (at_builtin; refine wpList_snoc _ rfl (Operand.tmp 10) (Operand.tmp 13) rfl w.heap.size _ l rfl ?q1 wr.heap.size j rfl ?q2 HLEN.out ?q3 ?_)
      case q1 => exact HO.out.mono (bAlloc (Below.refl _ _) _)
      case q2 => simp [go_sem]
      case q3 => simp; omega
      intro v' w5 hown5 hb5
      have HO5 := Lib.hid hown5
      have HL5 := Lib.hid (hb5 w.heap.size _ (Nat.le_refl _) (bAlloc HL3.out _))
      clear hown5 hb5
      go_wp2_with fail
      go_roundw
      case rel => exact ⟨q, l ++ [(j : Int)], rfl, by have := HCL.out; have := HQ.out; omega, by rw [List.append_assoc, List.singleton_append, ← HQ.out, ← HJ.out, ← HST.out]; exact HLL.out, HO5.out, HL5.out⟩
      case measure => have := HCL.out; have := HQ.out; simp [intOf]; omega
    · obtain rfl : r = 0 := by omega
      have HF := Lib.hid (show l = bitsL s by have := HLL.out; rw [bitsL_zero, List.append_nil] at this; exact this)
      go_wp2_with fail
      go_ret
      exact ⟨⟨_, rfl, HF.out ▸ HO.out⟩, HL3.out⟩
end Go.Proofs.YthnojgdckkdcgaaGreatDoor

namespace Go.Proofs.YthnojgdckkdcgaaGreatDoor
open Go.RowKit Go.Sort
theorem leftTo_sel (t : Qt) : ∀ n, t.leftTo n = selTo t.leftB n
  | 0 => rfl
  | n + 1 => by
    show (if t.leftB n then t.leftTo n ++ [(n : Int)] else t.leftTo n) = (if t.leftB n then selTo t.leftB n ++ [(n : Int)] else selTo t.leftB n)
    rw [leftTo_sel t n]
theorem selTo_congr {p q : Nat → Bool} : ∀ n, (∀ i, i < n → p i = q i) → selTo p n = selTo q n
  | 0, _ => rfl
  | n + 1, h => by
    show (if p n then selTo p n ++ [(n : Int)] else selTo p n) = (if q n then selTo q n ++ [(n : Int)] else selTo q n)
    rw [selTo_congr n (fun i hi => h i (by omega)), h n (by omega)]
theorem selTo_past {p : Nat → Bool} {n : Nat} : ∀ m, n ≤ m → (∀ i, n ≤ i → i < m → p i = false) → selTo p m = selTo p n
  | 0, h, _ => by obtain rfl : n = 0 := by omega
                  rfl
  | m + 1, h, hp => by
    rcases Nat.lt_or_ge m n with h1 | h1
    · obtain rfl : n = m + 1 := by omega
      rfl
    · show (if p m then selTo p m ++ [(m : Int)] else selTo p m) = _
      rw [hp m h1 (by omega)]
      exact selTo_past m h1 (fun i h2 h3 => hp i h2 (by omega))
theorem maskTo_bit (t : Qt) (j : Nat) : ∀ k, (t.maskTo k).testBit j = (decide (j < k) && t.leftB j)
  | 0 => by simp [Qt.maskTo]
  | k + 1 => by
    have ih := maskTo_bit t j k
    unfold Qt.maskTo
    by_cases hjk : j = k
    · subst hjk
      split
      · rename_i h
        rw [Nat.testBit_or, Nat.testBit_two_pow_self, h]
        simp
      · rename_i h
        rw [ih]
        simp [h]
    · have h1 : (decide (j < k + 1)) = decide (j < k) := by by_cases h : j < k <;> simp [h] <;> omega
      split
      · rw [Nat.testBit_or, ih, Nat.testBit_two_pow_of_ne (fun e => hjk e.symm), h1, Bool.or_false]
      · rw [ih, h1]
theorem bits_mask (t : Qt) (h : t.nw ≤ 6) : bitsL (t.maskTo t.nw) = t.leftL := by
  unfold bitsL Qt.leftL
  rw [leftTo_sel, selTo_past (n := t.nw) 6 h fun i h1 h2 => by rw [maskTo_bit]; simp; omega]
  exact selTo_congr _ fun i hi => by rw [maskTo_bit]; simp [hi]
theorem mask_64 (t : Qt) (h : t.nw ≤ 6) : t.maskTo t.nw < 64 := by
  have h1 := maskTo_lt t t.nw
  have h2 : (2 : Nat) ^ t.nw ≤ 2 ^ 6 := Nat.pow_le_pow_right (by decide) h
  omega
/-- lengths are Go's -/
def Qt.Small (t : Qt) : Prop := t.nw ≤ 9223372036854775807 ∧ t.nf ≤ 9223372036854775807 ∧ ∀ i, i < t.nw → ∀ k, k < (t.world i).n → (t.world i).len k ≤ 9223372036854775807
/-- what ask and open hand back: a court, or an error -/
def AskOut (w : World) (base : Nat) (Aw Af : Option Addr) (cw cf : Nat) (t : Qt) (er : Int) (e : Ending) : Prop := (er ≠ 0 → e = .returned (.tuple #[.pointer none, .int .i64 er])) ∧ (er = 0 → AskOk w base Aw Af cw cf t e)
set_option maxHeartbeats 2000000 in
set_option maxRecDepth 100000 in
theorem askQ_any (Aw Af : Option Addr) (cw cf : Nat) (t : Qt) (is : Bool) (w : World) (hs : t.Small) (hT : QAt w Aw Af t) :
    Calls Tryz.prog 111 #[.agg #[.int .i64 t.wells, .slice Aw t.nw cw, .slice Af t.nf cf], .bool is] w fun e w' => AskOut w' w.heap.size Aw Af cw cf t (t.askErr is) e ∧ Below w.heap.size w w' := by
  by_cases h : t.Ok ∧ is = true
  · obtain ⟨ok, rfl⟩ := h
    refine (askQ_ok Aw Af cw cf t w ok hs.2.2 hT).mono ?_
    rintro e w' ⟨h1, h2⟩
    exact ⟨⟨fun h => absurd (askErr_ok ok true) h, fun _ => h1⟩, h2⟩
  have hb0 := bAlloc (Below.refl w.heap.size w) (.cells #[.int .i64 t.wells, .slice Aw t.nw cw, .slice Af t.nf cf] 25)
  have HT := Lib.hid (hT.mono hb0)
  have HB := Lib.hid hb0
  have HS := Lib.hid hs
  clear hT hb0 hs
  by_cases ok : t.Ok
  · obtain rfl : is = false := by cases is; rfl; exact absurd ⟨ok, rfl⟩ h
    have HE := Lib.hid (Qt.err_ok ok)
    have HA := Lib.hid (show t.askErr false = 1 from askErr_ok ok false)
    clear ok h
    go_enter Tryz.func111, Tryz.ntmps111
    go_wp2_with fail
    refine (checkQ_any _ _ _ _ t _ HS.out.1 HS.out.2.1 HS.out.2.2 HT.out).mono ?_
    rintro e w1 ⟨he, hb1⟩
    rw [HE.out] at he
    subst he
    go_wp2_with fail
    go_ret2
    exact ⟨⟨fun _ => by rw [HA.out]; rfl, (fun h => by rw [HA.out] at h; cases h)⟩, bTrans HB.out hb1⟩
  · have HE := Lib.hid (Qt.err_bad ok)
    have HA := Lib.hid (askErr_bad ok is)
    clear ok h
    go_enter Tryz.func111, Tryz.ntmps111
    go_wp2_with fail
    refine (checkQ_any _ _ _ _ t _ HS.out.1 HS.out.2.1 HS.out.2.2 HT.out).mono ?_
    rintro e w1 ⟨he, hb1⟩
    rw [HE.out] at he
    subst he
    go_wp2_with fail
    go_ret2
    exact ⟨⟨fun _ => by rw [HA.out]; rfl, (fun h => by rw [HA.out] at h; cases h)⟩, bTrans HB.out hb1⟩
end Go.Proofs.YthnojgdckkdcgaaGreatDoor

namespace Go.Proofs.YthnojgdckkdcgaaGreatDoor
open Go.RowKit Go.Sort
set_option maxHeartbeats 2000000 in
set_option maxRecDepth 100000 in
theorem leftQ_any (Aw Af : Option Addr) (cw cf : Nat) (t : Qt) (w : World) (hs : t.Small) (hT : QAt w Aw Af t) (hB : TabAt w) :
    Calls Tryz.prog 130 #[.agg #[.int .i64 t.wells, .slice Aw t.nw cw, .slice Af t.nf cf]] w fun e w' => Left5Out w' w.heap.size t e ∧ Below w.heap.size w w' := by
  have hb0 := bAlloc (Below.refl w.heap.size w) (.cells #[.int .i64 t.wells, .slice Aw t.nw cw, .slice Af t.nf cf] 25)
  have HT := Lib.hid (hT.mono hb0)
  have HTB := Lib.hid (hB.mono hb0)
  have HB := Lib.hid hb0
  clear hT hb0 hB
  by_cases ok : t.Ok
  · have HE := Lib.hid (Qt.err_ok ok)
    have HAE := Lib.hid (show t.askErr true = 0 from askErr_ok ok true)
    have HOK := Lib.hid ok
    obtain ⟨s, hsk⟩ : ∃ s, t.maskTo t.nw = s := ⟨_, rfl⟩
    have HBM := Lib.hid (show bitsL s = t.leftL by rw [← hsk]; exact bits_mask t ok.nw)
    have H64 := Lib.hid (show s < 64 by rw [← hsk]; exact mask_64 t ok.nw)
    have HSK := Lib.hid hsk
    clear hsk ok
    go_enter Tryz.func130, Tryz.ntmps130
    go_wp2_with fail
    refine (askQ_any _ _ _ _ t _ _ hs HT.out).mono ?_
    rintro e w1 ⟨⟨_, hk⟩, hb1⟩
    obtain ⟨C, mp, rfl, hc, _, _⟩ := hk HAE.out
    rw [HSK.out] at hc
    have x1 := hc.box.lt
    have y1 := hc.box.cell 3 _ rfl
    have HB1 := Lib.hid hb1
    have hz1 := hb1.size
    simp only [World.size_alloc] at hz1
    clear hk hc hb1
    go_wp2_with fail
    refine (list_any s _ H64.out (HTB.out.mono HB1.out)).mono ?_
    rintro e w2 ⟨⟨v, rfl, hv⟩, hb2⟩
    rw [HBM.out] at hv
    have HV := Lib.hid (hv.lower (show w.heap.size ≤ w1.heap.size by omega))
    have HB2 := Lib.hid (bTrans HB1.out hb2)
    clear hv hb2
    go_wp2_with fail
    go_ret2
    exact ⟨⟨v, by rw [HE.out]; rfl, fun _ => HV.out, fun h => absurd HOK.out h⟩, bTrans HB.out HB2.out⟩
  · have HE := Lib.hid (Qt.err_bad ok)
    have HAE := Lib.hid (askErr_bad ok true)
    have HNO := Lib.hid ok
    clear ok
    go_enter Tryz.func130, Tryz.ntmps130
    go_wp2_with fail
    refine (askQ_any _ _ _ _ t _ _ hs HT.out).mono ?_
    rintro e w1 ⟨⟨hk, _⟩, hb1⟩
    obtain rfl := hk (by rw [HAE.out]; decide)
    rw [HAE.out]
    have HB1 := Lib.hid hb1
    clear hk hb1
    go_wp2_with fail
    go_ret2
    exact ⟨⟨_, by rw [HE.out]; rfl, fun h => absurd h HNO.out, fun _ => rfl⟩, bTrans HB.out HB1.out⟩
end Go.Proofs.YthnojgdckkdcgaaGreatDoor

namespace Go.Proofs.YthnojgdckkdcgaaGreatDoor
open Go.RowKit Go.Sort
end Go.Proofs.YthnojgdckkdcgaaGreatDoor

namespace Go.Proofs.YthnojgdckkdcgaaGreatDoor
open Go.RowKit Go.Sort
end Go.Proofs.YthnojgdckkdcgaaGreatDoor

namespace Go.Proofs.YthnojgdckkdcgaaGreatDoor
/-- a test: two wells -/
abbrev Tp := Nat × Nat
end Go.Proofs.YthnojgdckkdcgaaGreatDoor

namespace Go.Proofs.YthnojgdckkdcgaaGreatDoor
open Go.RowKit Go.Sort
def intL0 (L : List Int) (k : Nat) : Int := L[k]?.getD 0
theorem intL0_mem {L : List Int} {k : Nat} (h : k < L.length) : intL0 L k ∈ L := by
  unfold intL0
  rw [List.getElem?_eq_getElem h]
  exact List.getElem_mem h
theorem mem_intL0 {L : List Int} {x : Int} (h : x ∈ L) : ∃ k, k < L.length ∧ intL0 L k = x := by
  obtain ⟨k, hk, he⟩ := List.getElem_of_mem h
  exact ⟨k, hk, by unfold intL0; rw [List.getElem?_eq_getElem hk]; exact he⟩
/-- what a test shows in a world -/
def Qt.F (t : Qt) (i : Int) (x : Tp) : Int := (t.world i.toNat).fall x.1 x.2
/-! ### How many tests are enough -/
end Go.Proofs.YthnojgdckkdcgaaGreatDoor

namespace Go.Proofs.YthnojgdckkdcgaaGreatDoor
open Go.RowKit Go.Sort
/-! ### What is known -/
/-- of how many of the first n something is so -/
def cntB (p : Nat → Bool) : Nat → Nat
  | 0 => 0
  | n + 1 => if p n then cntB p n + 1 else cntB p n
theorem cntB_le (p : Nat → Bool) : ∀ n, cntB p n ≤ n
  | 0 => Nat.le_refl 0
  | n + 1 => by have := cntB_le p n; unfold cntB; split <;> omega
theorem cntB_zero {p : Nat → Bool} : ∀ {n : Nat}, cntB p n = 0 ↔ ∀ i, i < n → p i = false
  | 0 => by simp [cntB]
  | n + 1 => by
    have ih := cntB_zero (p := p) (n := n)
    unfold cntB
    split
    · rename_i h
      exact ⟨fun e => by omega, fun e => by rw [e n (by omega)] at h; cases h⟩
    · rename_i h
      rw [ih]
      refine ⟨fun e i hi => ?_, fun e i hi => e i (by omega)⟩
      rcases Nat.lt_or_ge i n with h1 | h1
      · exact e i h1
      · obtain rfl : i = n := by omega
        simpa using h
/-- what is known, of so many of all -/
def knownK (so all : Int) : Int := if so = 0 then 2 else if so = all then 1 else 3
/-! ### Draws -/
end Go.Proofs.YthnojgdckkdcgaaGreatDoor

namespace Go.Proofs.YthnojgdckkdcgaaGreatDoor
open Go.RowKit Go.Sort
theorem sameInts_any (A B : Option Addr) (n m c c' : Nat) (f g : Nat → Int) (w : World) (hn : n ≤ 9223372036854775807) (hm : m ≤ 9223372036854775807) (hf : IntsAt w A n f) (hg : IntsAt w B m g) :
    Calls Tryz.prog 28 #[.slice A n c, .slice B m c'] w fun e w' => e = .returned (.bool (decide (n = m) && !anyB (fun i => f i != g i) n)) ∧ Below w.heap.size w w' := by
  have HF := Lib.hid hf
  have HG := Lib.hid hg
  clear hf hg
  by_cases he : n = m
  · subst he
    go_enter Tryz.func28, Tryz.ntmps28
    go_wp2_with fail
    go_loopw [5] (fun i wr => ∃ k : Nat, k ≤ n ∧ i = .int .i64 k ∧ anyB (fun i => f i != g i) k = false ∧ Below w.heap.size w wr) (fun i _ => n - (intOf i).toNat)
    case atStart => exact ⟨0, Nat.zero_le _, rfl, rfl, Below.refl _ _⟩
    case round =>
      obtain ⟨k, hk, rfl, hno, hbel⟩ := hrel
      have HN := Lib.hid hno
      clear hno
      by_cases hlt : k < n
      · rcases HF.out.mono hbel with h0 | ⟨b, o, hA, hb, hcell⟩
        · omega
        have c0 := hcell k hlt
        clear hcell
        subst hA
        rcases HG.out.mono hbel with h0 | ⟨b2, o2, hA2, hb2, hcell2⟩
        · omega
        have c2 := hcell2 k hlt
        clear hcell2
        subst hA2
        cases hd : (f k != g k)
        all_goals
          go_wp2_with fail
          refine wp_region_quiet_below (by kernel_rfl) (by kernel_rfl) ?_
          repeat (go_big_quiet_step ((fail)))
          refine wpQuiet_nil ?_
          intro w3 hw3
          have hb3 := below_of_regrown hw3
          clear hw3
          go_wp2_with fail
        · go_roundw
          case rel => exact ⟨k + 1, by omega, by go_num, anyB_step HN.out hd, bTrans hbel hb3⟩
          case measure => simp [intOf]; omega
        · go_ret
          exact ⟨ret_bool (by rw [anyB_hit hlt hd]; simp), bTrans hbel hb3⟩
      · obtain rfl : k = n := by omega
        go_wp2_with fail
        go_ret
        exact ⟨ret_bool (by rw [HN.out]; simp), hbel⟩
  · have hne : ((n : Int) == (m : Int)) = false := by simp; omega
    have hne2 : ((n : Int) != (m : Int)) = true := by simp; omega
    go_enter Tryz.func28, Tryz.ntmps28
    go_wp2_with fail
    all_goals
      go_ret
      exact ⟨ret_bool (by simp [he]), Below.refl _ _⟩
end Go.Proofs.YthnojgdckkdcgaaGreatDoor

namespace Go.Proofs.YthnojgdckkdcgaaGreatDoor
open Go.RowKit Go.Sort
/-- far too much of something -/
def Wd.huge (x : Wd) : Bool := decide (40 < x.n) || anyB (fun k => decide (40 < x.len k)) x.n
def Qt.huge (t : Qt) : Bool := decide (40 < t.nw) || decide (40 < t.nf) || anyB (fun i => (t.world i).huge) t.nw
set_option maxHeartbeats 4000000 in
set_option maxRecDepth 100000 in
theorem huge_any (Aw Af : Option Addr) (cw cf : Nat) (t : Qt) (w : World) (hs : t.Small) (hT : QAt w Aw Af t) :
    Calls Tryz.prog 8 #[.agg #[.int .i64 t.wells, .slice Aw t.nw cw, .slice Af t.nf cf]] w fun e w' => e = .returned (.bool t.huge) ∧ Below w.heap.size w w' := by
  have hb0 := bAlloc (Below.refl w.heap.size w) (.cells #[.int .i64 t.wells, .slice Aw t.nw cw, .slice Af t.nf cf] 25)
  have HT := Lib.hid (hT.mono hb0)
  have HB := Lib.hid hb0
  have HS := Lib.hid hs
  clear hT hb0 hs
  by_cases h1 : 40 < t.nw
  · have HH := Lib.hid (show t.huge = true by unfold Qt.huge; simp [h1])
    have g1 : decide ((t.nw : Int) > 40) = true := by simp; omega
    have g2 : (40 : Int) < (t.nw : Int) := by omega
    go_enter Tryz.func8, Tryz.ntmps8
    go_wp2_with fail
    go_ret
    exact ⟨ret_bool (by rw [HH.out]), HB.out⟩
  have g1 : decide ((t.nw : Int) > 40) = false := by simp; omega
  have g2 : ¬ (40 : Int) < (t.nw : Int) := by omega
  by_cases h2 : 40 < t.nf
  · have HH := Lib.hid (show t.huge = true by unfold Qt.huge; simp [h2])
    have g3 : (40 : Int) < (t.nf : Int) := by omega
    go_enter Tryz.func8, Tryz.ntmps8
    go_wp2_with fail
    go_ret
    exact ⟨ret_bool (by rw [HH.out]), HB.out⟩
  have g3 : ¬ (40 : Int) < (t.nf : Int) := by omega
  have g4 : decide ((t.nf : Int) > 40) = false := by simp; omega
  have g5 : decide ((40 : Int) < (t.nf : Int)) = false := by simp; omega
  have g6 : decide ((40 : Int) < (t.nw : Int)) = false := by simp; omega
  have HH := Lib.hid (show t.huge = anyB (fun i => (t.world i).huge) t.nw by unfold Qt.huge; simp [h1, h2])
  have H1 := Lib.hid (show t.nw ≤ 40 by omega)
  clear h1 h2
  go_enter Tryz.func8, Tryz.ntmps8
  go_wp2_with fail
  go_loopw [3] (fun s3 wr => ∃ i : Nat, i ≤ t.nw ∧ s3 = .int .i64 i ∧ anyB (fun i => (t.world i).huge) i = false ∧ Below (w.alloc (.cells #[.int .i64 t.wells, .slice Aw t.nw cw, .slice Af t.nf cf] 25)).heap.size (w.alloc (.cells #[.int .i64 t.wells, .slice Aw t.nw cw, .slice Af t.nf cf] 25)) wr) (fun s3 _ => t.nw - (intOf s3).toNat)
  case atStart => exact ⟨0, Nat.zero_le _, rfl, rfl, Below.refl _ _⟩
  case round =>
    obtain ⟨i, hi, rfl, hno, hbel⟩ := hrel
    have HN := Lib.hid hno
    have HL := Lib.hid hbel
    obtain ⟨bc3, bf3⟩ := bcell hbel
    have hz3 := hbel.size
    simp only [World.size_alloc] at hz3
    have hy3 : w.heap.size < wr.heap.size := hz3
    clear hbel hno
    by_cases hlt : i < t.nw
    · rcases (HT.out.mono HL.out).worlds with h0 | ⟨b, o, hA, hb, hcell⟩
      · omega
      obtain ⟨A', c', c0, hrow, hlen⟩ := hcell i hlt
      have HROW := Lib.hid hrow
      have i1 : (i : Int) < (t.nw : Int) := by omega
      have i0 : i ≤ 40 := by have := H1.out; omega
      obtain ⟨n, hn⟩ : ∃ n, (t.world i).n = n := ⟨_, rfl⟩
      rw [hn] at c0
      have HXN := Lib.hid hn
      clear hcell hrow hlen
      subst hA
      by_cases h3 : 40 < n
      · have HX := Lib.hid (show t.huge = true by rw [HH.out]; exact anyB_hit hlt (by unfold Wd.huge; rw [hn]; simp [h3]))
        have g7 : (40 : Int) < (n : Int) := by omega
        clear hn
        go_wp2_with fail
        go_ret
        exact ⟨ret_bool (by rw [HX.out]), bTrans HB.out HL.out⟩
      · have g7 : ¬ (40 : Int) < (n : Int) := by omega
        have g8 : decide ((40 : Int) < (n : Int)) = false := by simp; omega
        have n40 : n ≤ 40 := by omega
        have HY := Lib.hid (show (t.world i).huge = anyB (fun k => decide (40 < (t.world i).len k)) n by unfold Wd.huge; rw [hn]; simp [h3])
        clear hn h3
        go_wp2_with fail
        go_loopw [4] (fun s4 wx => ∃ k : Nat, k ≤ n ∧ s4 = .int .i64 k ∧ anyB (fun k => decide (40 < (t.world i).len k)) k = false ∧ wx = wr) (fun s4 _ => n - (intOf s4).toNat)
        case atStart => exact ⟨0, Nat.zero_le _, rfl, rfl, rfl⟩
        case round =>
          obtain ⟨k, hk, rfl, hno, rfl⟩ := hrel
          have HK := Lib.hid hno
          clear hno
          by_cases hlk : k < n
          · rcases HROW.out with h0 | ⟨b', o', hA, hb', hc'⟩
            · have := HXN.out
              omega
            obtain ⟨A'', c'', h3, _, h5⟩ := hc' k (by rw [HXN.out]; exact hlk)
            have k1 : (k : Int) < (n : Int) := by omega
            have k0 : (0 : Int) ≤ (k : Int) := by omega
            clear hc'
            subst hA
            obtain ⟨l, hl⟩ : ∃ l, (t.world i).len k = l := ⟨_, rfl⟩
            rw [hl] at h3 h5
            have HLL := Lib.hid hl
            clear hl
            by_cases h4 : 40 < l
            · have HX := Lib.hid (show t.huge = true by rw [HH.out]; refine anyB_hit hlt ?_; rw [HY.out]; exact anyB_hit hlk (by rw [HLL.out]; simp [h4]))
              have g9 : (40 : Int) < (l : Int) := by omega
              go_wp2_with fail
              go_ret
              exact ⟨ret_bool (by rw [HX.out]), bTrans HB.out HL.out⟩
            · have HX := Lib.hid (anyB_step HK.out (show (fun k => decide (40 < (t.world i).len k)) k = false by simp only [HLL.out]; simpa using h4))
              have g9 : ¬ (40 : Int) < (l : Int) := by omega
              go_wp2_with fail
              go_roundw
              case rel =>
                first
                | exact ⟨k + 1, by omega, by go_num, HX.out, by trivial⟩
                | ((repeat apply Exists.intro)
                   refine ⟨⟨k + 1, by omega, ?_, HX.out, rfl⟩, rfl⟩
                   go_num)
              case measure => simp [intOf]; omega
          · obtain rfl : k = n := by omega
            have HX := Lib.hid (anyB_step HN.out (show (fun i => (t.world i).huge) i = false by simp only [HY.out]; exact HK.out))
            have k1 : ¬ (k : Int) < (k : Int) := by omega
            go_wp2_with fail
            go_roundw
            case rel =>
              first
              | exact ⟨i + 1, by omega, by go_num, HX.out, HL.out⟩
              | ((repeat apply Exists.intro)
                 refine ⟨⟨i + 1, by omega, ?_, HX.out, HL.out⟩, rfl⟩
                 go_num)
            case measure => simp [intOf]; omega
    · obtain rfl : i = t.nw := by omega
      have HX := Lib.hid (show t.huge = false by rw [HH.out]; exact HN.out)
      go_wp2_with fail
      go_ret
      exact ⟨ret_bool (by rw [HX.out]), bTrans HB.out HL.out⟩
end Go.Proofs.YthnojgdckkdcgaaGreatDoor

namespace Go.Proofs.YthnojgdckkdcgaaGreatDoor
open Go.RowKit Go.Sort
section
variable {P : Program} {ops : Array Oper} {md : Region.Mode}
/-- whether operation j waits for operation i, over others too -/
def ancB (md : Region.Mode) (ops : Array Oper) : Nat → Nat → Nat → Bool
  | 0, j, i => waits md ops j i
  | f + 1, j, i => waits md ops j i || (List.range ops.size).any fun k => decide (i < k) && waits md ops j k && ancB md ops f k i
theorem Shut.anc {listed : Array Bool} (hs : Shut md ops listed) : ∀ (f j i : Nat), listed.getD j false = true → ancB md ops f j i = true → listed.getD i false = true
  | 0, j, i, h1, h2 => hs.shut j i h1 h2
  | f + 1, j, i, h1, h2 => by
    unfold ancB at h2
    rw [Bool.or_eq_true] at h2
    rcases h2 with h2 | h2
    · exact hs.shut j i h1 h2
    · obtain ⟨k, _, h3⟩ := List.any_eq_true.1 h2
      simp only [Bool.and_eq_true] at h3
      exact Shut.anc hs f k i (hs.shut j k h1 h3.1.2) h3.2
theorem anc_listed {listed : Array Bool} (hs : Shut md ops listed) {j : Nat} (hr : j ∈ Region.ready md ops listed) : ∀ (f i : Nat), ancB md ops f j i = true → listed.getD i false = true
  | 0, i, h => waits_listed hr h
  | f + 1, i, h => by
    unfold ancB at h
    rw [Bool.or_eq_true] at h
    rcases h with h2 | h2
    · exact waits_listed hr h2
    · obtain ⟨k, _, h3⟩ := List.any_eq_true.1 h2
      simp only [Bool.and_eq_true] at h3
      exact hs.anc f k i (waits_listed hr h3.1.2) h3.2
def pivotB (md : Region.Mode) (ops : Array Oper) (n : Nat) : Bool := orderedB md ops && decide (n < ops.size) && (List.range ops.size).all fun i => (!decide (i < n) || ancB md ops ops.size n i) && (!decide (n < i) || ancB md ops ops.size i n)
theorem frameOf_slot2 {V V' : Nat → Value} {L M : Nat → Bool} {a : Act} {t : Tmp} {i : Nat}
    (hlow : ∀ k, k < i → dstOf ops k = some t → L k = M k ∧ (L k = true → V k = V' k)) : ∀ k, k ≤ i → (frameOf ops V L a k).tmps[t]? = (frameOf ops V' M a k).tmps[t]?
  | 0, _ => rfl
  | k + 1, h => by
    have ih := frameOf_slot2 (a := a) hlow k (by omega)
    unfold frameOf
    by_cases hd : dstOf ops k = some t
    · obtain ⟨h1, h3⟩ := hlow k (by omega) hd
      by_cases h2 : L k = true
      · rw [if_pos h2, if_pos (h1 ▸ h2), hd, h3 h2]
        exact put_eq (by simp [frameOf_size]) _
      · rw [if_neg h2, if_neg (h1 ▸ h2)]
        exact ih
    · by_cases h1 : L k = true <;> by_cases h2 : M k = true <;> simp only [h1, h2, if_true, if_false, Bool.false_eq_true, put_ne hd] <;> exact ih
theorem Ordered.sees2 (h : Ordered md ops) {V : Nat → Value} {n : Nat} {a : Act} {listed : Array Bool} (hs : Shut md ops listed) {i : Nat} {o : Oper} (ho : ops[i]? = some o) (hr : i ∈ Region.ready md ops listed) :
    ∀ t, t ∈ o.looksAt ops → (frameOf ops V (fun k => listed.getD k false && !decide (k ≤ n)) a ops.size).tmps[t]? = (frameOf ops V (fun k => !decide (k ≤ n)) a i).tmps[t]? := by
  intro t ht
  have hi : i < ops.size := (Array.getElem?_eq_some_iff.1 ho).1
  have hun := listed_both (mem_ready.1 hr).1
  have hlk := looks_of ho ht
  rw [frameOf_slot_up (i := i) (fun k hk hl hd => ?_) ops.size (by omega), frameOf_slot2 (V' := V) (M := fun k => !decide (k ≤ n)) (i := i) (fun k hk hd => ?_) i (Nat.le_refl i)]
  · refine ⟨?_, fun _ => rfl⟩
    rcases h.apart k i hk hi with hw | ⟨h1, _⟩
    · rw [waits_listed hr hw, Bool.true_and]
    · rw [(h1 t hd).1] at hlk; cases hlk
  · have hl1 : listed.getD k false = true := by
      simp only [Bool.and_eq_true] at hl
      exact hl.1
    have hkn : k < ops.size := by
      simp only [dstOf] at hd
      rcases Nat.lt_or_ge k ops.size with h' | h'
      · exact h'
      · simp [Array.getElem?_eq_none h'] at hd
    have hne : i ≠ k := fun e => by subst e; rw [hun] at hl1; cases hl1
    rcases h.apart i k (by omega) hkn with hw | ⟨_, h2⟩
    · have := hs.shut k i hl1 hw; rw [hun] at this; cases this
    · rw [h2 t hd] at hlk; cases hlk
theorem Ordered.frame_put2 (h : Ordered md ops) {V : Nat → Value} {n : Nat} {a : Act} {listed : Array Bool} (hs : Shut md ops listed) {i : Nat} (hi : i < ops.size) (hn : n < i) (hun : listed.getD i true = false) :
    frameOf ops V (fun k => (listed.setIfInBounds i true).getD k false && !decide (k ≤ n)) a ops.size = (frameOf ops V (fun k => listed.getD k false && !decide (k ≤ n)) a ops.size).put (dstOf ops i) (V i) := by
  have hl := listed_both hun
  refine frameOf_put hi (by simp only [hl, Bool.false_and]) (by simp only [set_same (by rw [hs.size]; exact hi) false, Bool.true_and, Bool.not_eq_true', decide_eq_false_iff_not]; omega) (fun k hk => by simp only [getD_set_ne false (Ne.symm hk)]) (fun k d hk hlk0 hd hdk => ?_)
  have hlk : listed.getD k false = true := by
    simp only [Bool.and_eq_true] at hlk0
    exact hlk0.1
  have hkn : k < ops.size := by
    simp only [dstOf] at hdk
    rcases Nat.lt_or_ge k ops.size with h' | h'
    · exact h'
    · simp [Array.getElem?_eq_none h'] at hdk
  rcases h.apart i k hk hkn with hw | ⟨h1, _⟩
  · have := hs.shut k i hlk hw; rw [hl] at this; cases this
  · exact (h1 d hd).2 hdk
theorem frameOf_none {V : Nat → Value} {L : Nat → Bool} {a : Act} (h : ∀ k, L k = false) : ∀ k, frameOf ops V L a k = a
  | 0 => rfl
  | k + 1 => by unfold frameOf; rw [h k]; exact frameOf_none h k
theorem wpOp_at {Q : Exit → Act → World → Prop} {K : Act → World → Prop} {i : Nat} {o : Oper} {a : Act} {w : World} (ho : ops[i]? = some o) (hw : Region.wanted o (yielded ops a.tmps) = true) (h : o.wp P a w K Q) : wpOp P ops Q i K a w := by
  unfold wpOp
  simp only [ho, hw, if_true]
  exact .inl h
theorem wp_region_pivot {id : Nat} {Q : Exit → Act → World → Prop} {a : Act} {w : World} {l : List Oper} {o : Oper} (n : Nat) (hm : P.follows .mixedOrders = true) (hB : pivotB .any l.toArray n = true) (ho : l[n]? = some o)
    (h : wpCalm P l.toArray w (fun k => decide (n ≤ k)) (fun a' => ∀ w', Below w.heap.size w w' → wpOp P l.toArray Q n (fun a1 w1 => wpCalm P l.toArray w1 (fun k => decide (k ≤ n)) (fun a3 => ∀ w3, Below w1.heap.size w1 w3 → Q .normal a3 w3) 0 l a1) a' w') 0 l a) : (Code.region id l.toArray true).wp P Q a w := by
  unfold pivotB at hB
  simp only [Bool.and_eq_true, decide_eq_true_eq, List.all_eq_true, List.mem_range, Bool.or_eq_true, Bool.not_eq_true', decide_eq_false_iff_not] at hB
  obtain ⟨⟨hord, hsz⟩, hall⟩ := hB
  have H := ordered_of hord
  have hon : l.toArray[n]? = some o := by simpa using ho
  have hpre : ∀ i, i < n → ancB .any l.toArray l.toArray.size n i = true := fun i hi => ((hall i (by omega)).1).resolve_left (by omega)
  have hsuf : ∀ i, n < i → i < l.toArray.size → ancB .any l.toArray l.toArray.size i n = true := fun i hi hs => ((hall i hs).2).resolve_left (by omega)
  obtain ⟨V, _, hval, hQ⟩ := wpCalm_values a l 0 (fun _ => undef) (fun j => by simp) h
  refine wp_region_any hm ?_
  refine wpAny_inv (fun listed a' w' => (listed.getD n true = false → a' = frameOf l.toArray V (fun k => listed.getD k false) a l.toArray.size ∧ Below w.heap.size w w') ∧
    (listed.getD n true = true → ∃ (a1 : Act) (w1 : World) (V2 : Nat → Value), (∀ j o, 0 ≤ j → j < 0 + l.length → l.toArray[j]? = some o → decide (j ≤ n) = false → CalmAt P l.toArray w1 o (frameOf l.toArray V2 (fun k => !decide (k ≤ n)) a1 j) (V2 j)) ∧
      (∀ w3, Below w1.heap.size w1 w3 → Q .normal (frameOf l.toArray V2 (fun k => !decide (k ≤ n)) a1 (0 + l.length)) w3) ∧ a' = frameOf l.toArray V2 (fun k => listed.getD k false && !decide (k ≤ n)) a1 l.toArray.size ∧ Below w1.heap.size w1 w')) ?_ ?_ _ _ _ _ (left_le _ _) Shut.none ⟨fun _ => ⟨?_, (Below.refl _ _).drew⟩, fun hn => ?_⟩
  · intro listed a' w' i hs hI hr
    obtain ⟨hun, oi, hoi, _⟩ := mem_ready.1 hr
    have hi : i < l.toArray.size := (Array.getElem?_eq_some_iff.1 hoi).1
    rcases Nat.lt_trichotomy i n with hin | hin | hin
    · -- before
      have hn : listed.getD n true = false := by
        cases hn : listed.getD n true with
        | false => rfl
        | true =>
          have hnl : listed.getD n false = true := by
            have : n < listed.size := by rw [hs.size]; omega
            simp [this] at hn ⊢; exact hn
          have := hs.anc _ n i hnl (hpre i hin)
          rw [listed_both hun] at this; cases this
      obtain ⟨rfl, hb⟩ := hI.1 hn
      refine CalmAt.wpOp hoi (fun cs b => Region.noSelect_spec H.sel i oi cs b hoi) (hval i oi (Nat.zero_le _) (by simpa using hi) hoi (by simp; omega)) hb (H.sees hs hoi hr (fun k hk hk2 d hd => ?_) (fun _ _ => rfl)) (fun w'' hb' => ⟨fun hn' => ⟨?_, bTrans hb hb'⟩, fun hn' => ?_⟩)
      · simp at hk2; omega
      · have e1 : dstOf l.toArray i = oi.dst := by simp [dstOf, hoi]
        rw [H.frame_put hs hi hun, e1]
      · rw [getD_set_ne true (by omega)] at hn'
        rw [hn] at hn'; cases hn'
    · -- the pivot
      subst hin
      obtain ⟨rfl, hb⟩ := hI.1 hun
      obtain rfl : o = oi := Option.some.inj (hon.symm.trans hoi)
      have hfr : frameOf l.toArray V (fun k => listed.getD k false) a l.toArray.size = frameOf l.toArray V (fun k => !decide (i ≤ k)) a (0 + l.length) := by
        have hsz' : l.toArray.size = 0 + l.length := by simp
        rw [← hsz']
        refine frameOf_congr _ (fun j hj => ⟨?_, fun _ => rfl⟩)
        by_cases e : i ≤ j
        · simp only [e, decide_true, Bool.not_true]
          rcases Nat.eq_or_lt_of_le e with rfl | e
          · exact listed_both hun
          · cases hlj : listed.getD j false with
            | false => rfl
            | true =>
              have := hs.anc _ j i hlj (hsuf j e hj)
              rw [listed_both hun] at this; cases this
        · simp only [e, decide_false, Bool.not_false]
          exact anc_listed hs hr _ j (hpre j (by omega))
      have hq := hQ w' hb
      rw [← hfr] at hq
      have hset : (listed.setIfInBounds i true).getD i true = true := set_same (by rw [hs.size]; exact hi) true
      refine wpOp_mono (fun a1 w1 h1 => ⟨fun e => (by rw [hset] at e; cases e), fun _ => ?_⟩) hq
      have h0 : ∀ V0 : Nat → Value, frameOf l.toArray V0 (fun j => !decide (j ≤ i)) a1 0 = a1 := fun _ => rfl
      obtain ⟨V2, _, hval2, hQ2⟩ := wpCalm_values a1 l 0 (fun _ => undef) (fun j => by simp) h1
      refine ⟨a1, w1, V2, hval2, hQ2, ?_, Below.refl _ _⟩
      refine (frameOf_none (fun k => ?_) _).symm
      by_cases e : k ≤ i
      · simp [e]
      · rw [getD_set_ne false (by omega)]
        cases hlj : listed.getD k false with
        | false => rfl
        | true =>
          have hks : k < l.toArray.size := by
            rcases Nat.lt_or_ge k l.toArray.size with h' | h'
            · exact h'
            · have : listed.size ≤ k := by rw [hs.size]; exact h'
              simp [Array.getD, Nat.not_lt.2 this] at hlj
          have := hs.anc _ k i hlj (hsuf k (by omega) hks)
          rw [listed_both hun] at this; cases this
    · -- behind
      have hn : listed.getD n true = true := by
        have h1 := anc_listed hs hr _ n (hsuf i hin hi)
        have : n < listed.size := by rw [hs.size]; omega
        simp [this] at h1 ⊢; exact h1
      obtain ⟨a1, w1, V2, hval2, hQ2, rfl, hb⟩ := hI.2 hn
      refine CalmAt.wpOp hoi (fun cs b => Region.noSelect_spec H.sel i oi cs b hoi) (hval2 i oi (Nat.zero_le _) (by simpa using hi) hoi (by simp; omega)) hb (H.sees2 hs hoi hr) (fun w'' hb' => ⟨fun hn' => ?_, fun _ => ⟨a1, w1, V2, hval2, hQ2, ?_, bTrans hb hb'⟩⟩)
      · rw [getD_set_ne true (by omega)] at hn'
        rw [hn] at hn'; cases hn'
      · have e1 : dstOf l.toArray i = oi.dst := by simp [dstOf, hoi]
        rw [H.frame_put2 hs hi hin hun, e1]
  · intro listed a' w' hs hI hr
    have hA := H.all hs hr
    have hn : listed.getD n true = true := by
      have := hA n hsz
      have hlt : n < listed.size := by rw [hs.size]; omega
      simp [hlt] at this ⊢; exact this
    obtain ⟨a1, w1, V2, _, hQ2, rfl, hb⟩ := hI.2 hn
    have := hQ2 w' hb
    have hsz' : l.toArray.size = 0 + l.length := by simp
    rw [← hsz'] at this
    rw [frameOf_congr (M := fun k => !decide (k ≤ n)) (V' := V2) _ (fun j hj => ⟨by rw [hA j hj, Bool.true_and], fun _ => rfl⟩)]
    exact this
  · refine (frameOf_none (fun k => ?_) _).symm
    rcases Nat.lt_or_ge k l.length with h' | h' <;> simp [h']
  · have : n < l.toArray.size := by omega
    simp at this
    simp [this] at hn
/-- the same, its parts apart: the continuation is a letter in each of them -/
theorem wp_region_call {id : Nat} {Q : Exit → Act → World → Prop} {a : Act} {w : World} {l : List Oper} {o : Oper} (n : Nat) (R : Value → World → Prop) (hm : P.follows .mixedOrders = true) (hB : pivotB .any l.toArray n = true) (ho : l[n]? = some o)
    (h : ∃ A1 : Act, (∀ K : Act → Prop, K A1 → wpCalm P l.toArray w (fun k => decide (n ≤ k)) K 0 l a) ∧ Region.wanted o (yielded l.toArray A1.tmps) = true ∧
      (∀ w', Below w.heap.size w w' → ∀ (K : Act → World → Prop) (Q' : Exit → Act → World → Prop), (∀ v w2, R v w2 → K (A1.put o.dst v) w2) → o.wp P A1 w' K Q') ∧
      ∀ v w2, R v w2 → ∃ A3 : Act, (∀ K : Act → Prop, K A3 → wpCalm P l.toArray w2 (fun k => decide (k ≤ n)) K 0 l (A1.put o.dst v)) ∧ ∀ w3, Below w2.heap.size w2 w3 → Q .normal A3 w3) : (Code.region id l.toArray true).wp P Q a w := by
  obtain ⟨A1, h1, hw, h2, h3⟩ := h
  refine wp_region_pivot n hm hB ho (h1 _ fun w' hb => ?_)
  refine wpOp_at (by simpa using ho) hw (h2 w' hb _ _ fun v w2 hr => ?_)
  obtain ⟨A3, ha, hq⟩ := h3 v w2 hr
  exact ha _ hq
end
theorem newer_of {P : Program} {f : Nat} {args : Array Value} {w : World} {v : Value} (h : Calls P f args w fun e w' => e = .returned v ∧ Below w.heap.size w w') : Calls P f args w fun e w' => e = .returned v ∧ Newer w w' := h
/-- the ways of a guard -/
theorem two_ways (b1 b2 : Bool) : b1 = false ∨ (b1 = true ∧ b2 = false) ∨ (b1 = true ∧ b2 = true) := by cases b1 <;> cases b2 <;> simp
end Go.Proofs.YthnojgdckkdcgaaGreatDoor

namespace Go.Proofs.YthnojgdckkdcgaaGreatDoor
open Go.RowKit Go.Sort
end Go.Proofs.YthnojgdckkdcgaaGreatDoor

namespace Go.Proofs.YthnojgdckkdcgaaGreatDoor
open Go.RowKit Go.Sort
/-- how an element lies in memory -/
structure Elem (α : Type) where
  enc : α → List Value
  size : Nat
  ty : TypeId
  sl : TypeId
  z : Value
  bytes : Nat
structure Elem.Good {α : Type} (E : Elem α) : Prop where
  info : (Tryz.prog.info? E.ty).map (fun i => (i.zero, i.size, i.bytes)) = some (some E.z, E.size, E.bytes)
  und : Tryz.prog.underlying E.sl = some (.slice E.ty)
  zs : E.z.cells.size = E.size
  pos : 0 < E.size
  len : ∀ x, (E.enc x).length = E.size
  one : ∀ x, ∀ u ∈ E.enc x, u.oneCell' = true
  by_ : E.bytes ≤ 1000000
def Elem.cells {α : Type} (E : Elem α) (l : List α) : List Value := l.flatMap E.enc
/-- a slice of the call's own that holds a list -/
def OwnE {α : Type} (E : Elem α) (w : World) (base : Nat) (v : Value) (l : List α) : Prop := w.ownsRow base E.ty E.size v l.length (E.cells l)
section
variable {α : Type} {E : Elem α} {w w' : World} {base : Nat} {v : Value} {l : List α}
theorem OwnE.mono (h : OwnE E w base v l) (hb : Below w.heap.size w w') : OwnE E w' base v l := owns_below h hb
end
/-! ### Tests, pairs of worlds -/
end Go.Proofs.YthnojgdckkdcgaaGreatDoor

namespace Go.Proofs.YthnojgdckkdcgaaGreatDoor
open Go.RowKit Go.Sort
end Go.Proofs.YthnojgdckkdcgaaGreatDoor

namespace Go.Proofs.YthnojgdckkdcgaaGreatDoor
open Go.RowKit Go.Sort
end Go.Proofs.YthnojgdckkdcgaaGreatDoor

namespace Go.Proofs.YthnojgdckkdcgaaGreatDoor
open Go.RowKit Go.Sort
end Go.Proofs.YthnojgdckkdcgaaGreatDoor

namespace Go.Proofs.YthnojgdckkdcgaaGreatDoor
open Go.RowKit Go.Sort
end Go.Proofs.YthnojgdckkdcgaaGreatDoor

namespace Go.Proofs.YthnojgdckkdcgaaGreatDoor
open Go.RowKit Go.Sort
end Go.Proofs.YthnojgdckkdcgaaGreatDoor

namespace Go.Proofs.YthnojgdckkdcgaaGreatDoor
open Go.RowKit Go.Sort
end Go.Proofs.YthnojgdckkdcgaaGreatDoor

namespace Go.Proofs.YthnojgdckkdcgaaGreatDoor
open Go.RowKit Go.Sort
end Go.Proofs.YthnojgdckkdcgaaGreatDoor

namespace Go.Proofs.YthnojgdckkdcgaaGreatDoor
open Go.RowKit Go.Sort
end Go.Proofs.YthnojgdckkdcgaaGreatDoor

