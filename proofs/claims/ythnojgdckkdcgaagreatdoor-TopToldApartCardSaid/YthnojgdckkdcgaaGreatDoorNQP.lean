/- Parts joined: what all claims of this seat need. -/
import Derived.Test.YthnojgdckkdcgaaGreatDoorNQO
import Derived.Test.YthnojgdckkdcgaaGreatDoorNQE
import Derived.Test.YthnojgdckkdcgaaGreatDoorNQL
import Derived.Test.YthnojgdckkdcgaaGreatDoorNQC
import Derived.RangeFuncNested
import Derived.RangeFuncBound
import Derived.RangeFuncCalls
import Derived.RangeFuncLeaves
import Derived.Shelf.Abstract
import Derived.Shelf.RegionOpen
import Derived.OwnWalkIn
import Derived.TacticsInMore
import Derived.LoopNIn
import Derived.LoopIn
import Derived.Test.YthnojgdckkdcgaaGreatDoorNQF
import Derived.Test.YthnojgdckkdcgaaGreatDoorNQG
import Derived.Test.YthnojgdckkdcgaaGreatDoorNQM
import Derived.Test.YthnojgdckkdcgaaGreatDoorNQH
set_option linter.unusedSimpArgs false
set_option linter.unusedVariables false
namespace Go.Proofs.YthnojgdckkdcgaaGreatDoor
open Go.RowKit Go.Sort
theorem SpotsAt.get {w : World} {A : Option Addr} {n : Nat} {f : Nat → Spot} (h : SpotsAt w A n f) {i : Nat} (hi : i < n) : ∃ b o Ar Af Aw cr cf cw, A = some ⟨b, o, none⟩ ∧ b < w.heap.size ∧ ShAt w Ar Af (f i).sh ∧ RowsAt w Aw (f i).fl ∧ w.cell? ⟨b, o + i * 7, none⟩ = some (.int .i64 (f i).at_) ∧ w.cell? ⟨b, o + i * 7 + 1, none⟩ = some (.slice Ar (f i).sh.nr cr) ∧ w.cell? ⟨b, o + i * 7 + 2, none⟩ = some (.slice Af (f i).sh.nf cf) ∧ w.cell? ⟨b, o + i * 7 + 3, none⟩ = some (.int .i64 (f i).sh.deep) ∧ w.cell? ⟨b, o + i * 7 + 4, none⟩ = some (.int .i64 (f i).sh.haul) ∧ w.cell? ⟨b, o + i * 7 + 5, none⟩ = some (.int .i64 (f i).sh.rest) ∧ w.cell? ⟨b, o + i * 7 + 6, none⟩ = some (.slice Aw (f i).fl.n cw) := by
  rcases h with h | ⟨b, o, rfl, hlt, hc⟩
  · omega
  · obtain ⟨Ar, Af, Aw, cr, cf, cw, h⟩ := hc i hi
    exact ⟨b, o, Ar, Af, Aw, cr, cf, cw, rfl, hlt, h⟩
theorem RowsAt.get {w : World} {A : Option Addr} {x : Wd} (h : RowsAt w A x) {k j : Nat} (hk : k < x.n) (hj : j < x.len k) : ∃ b o b' o' c', A = some ⟨b, o, none⟩ ∧ b < w.heap.size ∧ w.cell? ⟨b, o + k, none⟩ = some (.slice (some ⟨b', o', none⟩) (x.len k) c') ∧ b' < w.heap.size ∧ w.cell? ⟨b', o' + j, none⟩ = some (.int .i64 (x.fall k j)) := by
  rcases h with h | ⟨b, o, rfl, hlt, hc⟩
  · omega
  · obtain ⟨A', c', h1, h2, _⟩ := hc k hk
    obtain ⟨b', o', rfl, hlt', h3⟩ := h2.get hj
    exact ⟨b, o, b', o', c', rfl, hlt, h1, hlt', h3⟩
set_option maxHeartbeats 4000000 in
set_option maxRecDepth 100000 in
theorem forbidsP_any (C : Nat) (Aw Af Ao Ap As : Option Addr) (cw cf co cp cs : Nat) (t : Pt) (Al : Option Addr) (cl : Nat) (s v a : Nat) (w : World) (hst : StreetAt w C Aw Af Ao Ap As cw cf co cp cs t Al cl) (ok : t.Ok) (hs : s < t.ns) (hv : (v : Int) < t.q.wells) (ha : a < t.q.nw) :
    Calls Tryz.prog 145 #[.pointer (some ⟨C, 0, none⟩), .int .i64 s, .int .i64 v, .int .i64 a] w fun e w' => e = .returned (.bool (t.forb s v (a : Int))) ∧ Below w.heap.size w w' := by
  have hx := ok.spot s hs
  have hvn : v < t.no := by have := ok.no; omega
  obtain ⟨b, o, Ar, Af2, Ax, cr, cf2, cx, rfl, hb, _, hrow, s0, s1, s2, s3, s4, s5, s6⟩ := hst.p.spots.get hs
  obtain ⟨bo, oo, rfl, hbo, co0⟩ := hst.p.old.get hvn
  obtain ⟨br, or_, bq, oq, cq, rfl, hbr, r0, hbq, r1⟩ := hrow.get (k := a) (j := v) (by rw [hx.n]; exact ha) (by have := hx.len a (by rw [hx.n]; exact ha); omega)
  obtain ⟨c0, c1, c2, c3, c4, c5, c6, c7, c8, c9, hCl⟩ := hst.box.c10
  have hxa := And.intro hx.a0 hx.a1
  have hol := ok.old v hvn
  have hfa := hx.fall a (by rw [hx.n]; exact ha) v (by have := hx.len a (by rw [hx.n]; exact ha); omega)
  have hmm := ok.many
  have hln : (v : Int) < ((t.spot s).fl.len a : Int) := by have := hx.len a (by rw [hx.n]; exact ha); omega
  have han : (a : Int) < ((t.spot s).fl.n : Int) := by have := hx.n; omega
  have hsn : (s : Int) < (t.ns : Int) := by omega
  have hvo : (v : Int) < (t.no : Int) := by omega
  obtain ⟨x, hxx⟩ : ∃ x, t.spot s = x := ⟨_, rfl⟩
  obtain ⟨fa, hfx⟩ : ∃ f, (t.spot s).fl.fall a v = f := ⟨_, rfl⟩
  obtain ⟨u, hu⟩ : ∃ u, t.old v = u := ⟨_, rfl⟩
  rw [hfx] at r1 hfa
  rw [hxx] at s0 s1 s2 s3 s4 s5 s6 hxa hln han r0
  rw [hu] at co0 hol
  obtain ⟨d, hd⟩ : ∃ d, dst u x.at_ = d := ⟨_, rfl⟩
  have hwr : IntKind.i64.wrap (fa * t.many) = fa * t.many := IntWalk.i64_in _ (by
    have h1 : 0 ≤ fa * t.many := Int.mul_nonneg hfa.1 hmm.1
    have h2 : fa * t.many ≤ 9 * 9 := Int.mul_le_mul hfa.2 hmm.2 hmm.1 (by decide)
    omega)
  have HF := Lib.hid (show t.forb s v (a : Int) = (decide (d < t.far) || decide (t.harm < fa * t.many)) by unfold Pt.forb; rw [Int.toNat_natCast, hxx, hu, hd, ← hfx, hxx])
  have HDI := Lib.hid (fun w' => hd ▸ distP_any u x.at_ w' hol hxa : ∀ w' : World, Calls Tryz.prog 81 #[.int .i64 u, .int .i64 x.at_] w' fun e w'' => e = .returned (.int .i64 d) ∧ Below w'.heap.size w' w'')
  have HB := Lib.hid (bAlloc (Below.refl w.heap.size w) (.cells #[.int .i64 x.at_, .slice Ar x.sh.nr cr, .slice Af2 x.sh.nf cf2, .int .i64 x.sh.deep, .int .i64 x.sh.haul, .int .i64 x.sh.rest, .slice (some ⟨br, or_, none⟩) x.fl.n cx] 71))
  rw [HF.out]
  clear hx hvn hrow hst ok hxa hol hfa hmm hd hxx hfx hu HF
  go_enter Tryz.func145, Tryz.ntmps145
  go_wp2_with fail
  by_cases hdf : d < t.far
  · have hdd : decide (d < t.far) = true := by simpa using hdf
    refine wp_region_quiet_below (by kernel_rfl) (by kernel_rfl) ?_
    repeat (go_big_quiet_step ((go_at_call 81; exact Calls.regrown_of (HDI.out _))))
    refine wpQuiet_nil ?_
    intro w3 hb3
    have HB3 := Lib.hid (bTrans HB.out (below_of_regrown hb3))
    clear hb3
    go_wp2_with fail
    go_ret
    exact ⟨by simp [hdd], HB3.out⟩
  · have hdd : decide (d < t.far) = false := by simpa using hdf
    cases hbh : decide (t.harm < fa * t.many)
    · skip
      refine wp_region_quiet_below (by kernel_rfl) (by kernel_rfl) ?_
      repeat (go_big_quiet_step ((go_at_call 81; exact Calls.regrown_of (HDI.out _))))
      refine wpQuiet_nil ?_
      intro w3 hb3
      have HB3 := Lib.hid (bTrans HB.out (below_of_regrown hb3))
      clear hb3
      go_wp2_with fail
      go_ret
      exact ⟨by simp [hdd, hbh], HB3.out⟩
    · skip
      refine wp_region_quiet_below (by kernel_rfl) (by kernel_rfl) ?_
      repeat (go_big_quiet_step ((go_at_call 81; exact Calls.regrown_of (HDI.out _))))
      refine wpQuiet_nil ?_
      intro w3 hb3
      have HB3 := Lib.hid (bTrans HB.out (below_of_regrown hb3))
      clear hb3
      go_wp2_with fail
      go_ret
      exact ⟨by simp [hdd, hbh], HB3.out⟩
theorem left_at {t : Qt} {k : Nat} (hk : k < t.leftL.length) : ∃ i : Nat, intL0 t.leftL k = (i : Int) ∧ i < t.nw ∧ t.leftB i = true := by
  have hm : intL0 t.leftL k ∈ t.leftL := by
    unfold intL0
    rw [List.getElem?_eq_getElem hk]
    exact List.getElem_mem hk
  obtain ⟨i, h1, h2, h3⟩ := (leftTo_mem t t.nw).1 hm
  exact ⟨i, h3, h1, h2⟩
theorem left_len {t : Qt} (ok : t.Ok) : t.leftL.length ≤ 6 := by have := leftTo_len t t.nw; have := ok.nw; unfold Qt.leftL; omega
set_option maxHeartbeats 4000000 in
set_option maxRecDepth 100000 in
theorem inP_any (C : Nat) (Aw Af Ao Ap As : Option Addr) (cw cf co cp cs : Nat) (t : Pt) (Al : Option Addr) (cl : Nat) (s v : Nat) (w : World) (hst : StreetAt w C Aw Af Ao Ap As cw cf co cp cs t Al cl) (ok : t.Ok) (hs : s < t.ns) (hv : (v : Int) < t.q.wells) :
    Calls Tryz.prog 105 #[.pointer (some ⟨C, 0, none⟩), .int .i64 s, .int .i64 v] w fun e w' => e = .returned (.int .i64 (t.inN s v : Int)) ∧ Below w.heap.size w w' := by
  have HST := Lib.hid hst
  have HOK := Lib.hid ok
  have HS := Lib.hid hs
  have HV := Lib.hid hv
  have hl6 := left_len ok.q
  obtain ⟨n, hn⟩ : ∃ n, t.q.leftL.length = n := ⟨_, rfl⟩
  have HN := Lib.hid hn
  have hbx := hst.box
  rw [hn] at hbx hl6
  obtain ⟨c0, c1, c2, c3, c4, c5, c6, c7, c8, c9, hCl⟩ := hbx.c10
  clear hst ok hs hv hbx hn
  go_enter Tryz.func105, Tryz.ntmps105
  go_wp2_with fail
  clear c0 c1 c2 c3 c4 c5 c6 c7 c8 c9
  go_loopw [7, 15] (fun s7 s15 wr => ∃ k : Nat, k ≤ n ∧ s15 = .int .i64 (k : Int) ∧ s7 = .int .i64 (t.inTo s v k : Int) ∧ Below w.heap.size w wr) (fun _ s15 _ => n - (intOf s15).toNat)
  case atStart => exact ⟨0, Nat.zero_le _, rfl, rfl, Below.refl _ _⟩
  case round =>
    obtain ⟨k, hk, rfl, rfl, hbel⟩ := hrel
    have HL := Lib.hid hbel
    have hbx := (HST.out.mono hbel).box
    rw [HN.out] at hbx
    obtain ⟨c0, c1, c2, c3, c4, c5, c6, c7, c8, c9, hCl⟩ := hbx.c10
    obtain ⟨m, hm⟩ : ∃ m, t.inTo s v k = m := ⟨_, rfl⟩
    have HM := Lib.hid hm
    have hm6 : m ≤ 6 := by rw [← hm]; have := cntB_le (fun i => t.forb s v (intL0 t.q.leftL i)) k; unfold Pt.inTo; omega
    rw [hm]
    clear hbel hbx hm
    by_cases hlt : k < n
    · have hk1 : (k : Int) < (n : Int) := by omega
      obtain ⟨i, hi, hiw, _⟩ := left_at (t := t.q) (k := k) (by rw [HN.out]; exact hlt)
      obtain ⟨bl, ol, hA, hbl, cl0⟩ := (HST.out.mono HL.out).left.get (by rw [HN.out]; exact hlt : k < t.q.leftL.length)
      rw [hi] at cl0
      have HI := Lib.hid hi
      have HIW := Lib.hid hiw
      have hwm : IntKind.i64.wrap ((m : Int) + 1) = ((m + 1 : Nat) : Int) := IntWalk.i64_in _ (by omega)
      obtain ⟨bf, hbf⟩ : ∃ b, t.forb s v (i : Int) = b := ⟨_, rfl⟩
      have HF := Lib.hid hbf
      subst hA
      clear hi hiw hbf
      go_wp2_with fail
      refine (forbidsP_any C Aw Af Ao Ap As cw cf co cp cs t _ cl s v i _ (HST.out.mono HL.out) HOK.out HS.out HV.out HIW.out).mono ?_
      rintro e w4 ⟨rfl, hb4⟩
      rw [HF.out]
      have HL4 := Lib.hid (bTrans HL.out hb4)
      clear hb4 c0 c1 c2 c3 c4 c5 c6 c7 c8 c9 cl0
      cases bf
      · have HR := Lib.hid (show t.inTo s v (k + 1) = m by unfold Pt.inTo cntB; rw [HI.out, HF.out]; exact HM.out)
        go_wp2_with fail
        go_roundw
        case rel =>
          first
          | exact ⟨k + 1, by omega, by go_num, by rw [HR.out], HL4.out⟩
          | ((repeat apply Exists.intro)
             refine ⟨⟨k + 1, by omega, ?_, by rw [HR.out], HL4.out⟩, rfl⟩
             go_num)
        case measure => simp [intOf]; omega
      · have HR := Lib.hid (show t.inTo s v (k + 1) = m + 1 by unfold Pt.inTo cntB; rw [HI.out, HF.out]; exact congrArg (· + 1) HM.out)
        go_wp2_with fail
        go_roundw
        case rel =>
          first
          | exact ⟨k + 1, by omega, by go_num, by rw [HR.out]; rfl, HL4.out⟩
          | ((repeat apply Exists.intro)
             refine ⟨⟨k + 1, by omega, ?_, by rw [HR.out]; rfl, HL4.out⟩, rfl⟩
             go_num)
        case measure => simp [intOf]; omega
    · obtain rfl : n = k := by omega
      have HR := Lib.hid (show t.inN s v = m by unfold Pt.inN; rw [HN.out]; exact HM.out)
      go_wp2_with fail
      go_ret
      exact ⟨by rw [HR.out]; rfl, HL.out⟩
set_option maxHeartbeats 2000000 in
set_option maxRecDepth 100000 in
theorem priceP_any (C : Nat) (Aw Af Ao Ap As : Option Addr) (cw cf co cp cs : Nat) (t : Pt) (Al : Option Addr) (cl : Nat) (s : Nat) (w : World) (hst : StreetAt w C Aw Af Ao Ap As cw cf co cp cs t Al cl) (hsm : t.Small) (hs : s < t.ns) (hN : NoneAt w) :
    Calls Tryz.prog 134 #[.pointer (some ⟨C, 0, none⟩), .int .i64 s] w fun e w' => e = .returned (.tuple #[.int .i64 (t.cheap s).1, .bool (t.canB s)]) ∧ Below w.heap.size w w' := by
  have hx := hsm.spot s hs
  obtain ⟨b, o, Ar, Af2, Ax, cr, cf2, cx, rfl, hb, hsh, _, s0, s1, s2, s3, s4, s5, s6⟩ := hst.p.spots.get hs
  obtain ⟨c0, c1, c2, c3, c4, c5, c6, c7, c8, c9, hCl⟩ := hst.box.c10
  have hsn : (s : Int) < (t.ns : Int) := by omega
  have HC := Lib.hid (Cheap_any Ar Af2 cr cf2 (t.spot s).sh w hx.nr hx.nf hsh hN)
  obtain ⟨x, hxx⟩ : ∃ x, t.spot s = x := ⟨_, rfl⟩
  rw [hxx] at s0 s1 s2 s3 s4 s5 s6 HC
  obtain ⟨y, hy⟩ : ∃ y, x.sh.cheapOut.1 = y := ⟨_, rfl⟩
  obtain ⟨z, hz⟩ : ∃ z, x.sh.cheapOut.2 = z := ⟨_, rfl⟩
  rw [hy, hz] at HC
  have HE := Lib.hid (show (t.cheap s).1 = y ∧ t.canB s = decide (z = 0) by unfold Pt.canB Pt.cheap; rw [hxx, hy, hz]; exact ⟨rfl, rfl⟩)
  clear hx hsh hst hsm hxx hy hz hN
  go_enter Tryz.func134, Tryz.ntmps134
  go_wp2_with fail
  refine HC.out.mono ?_
  rintro e w1 ⟨rfl, hb1⟩
  have HB1 := Lib.hid hb1
  clear hb1
  go_wp2_with fail
  go_ret2
  exact ⟨by rw [HE.out.1, HE.out.2]; rfl, HB1.out⟩
end Go.Proofs.YthnojgdckkdcgaaGreatDoor

namespace Go.Proofs.YthnojgdckkdcgaaGreatDoor
open Go.RowKit Go.Sort
theorem StrOut.ret {w : World} {base : Nat} {Aw Af Ao Ap As : Option Addr} {cw cf co cp cs : Nat} {t : Pt} {er : Int} {e : Ending} (h : StrOut w base Aw Af Ao Ap As cw cf co cp cs t er e) : ∃ v, e = .returned v := by
  by_cases h0 : er = 0
  · obtain ⟨C, Al, cl, h1, _⟩ := h.2 h0
    exact ⟨_, h1⟩
  · exact ⟨_, h.1 h0⟩
theorem hasB_iff {t : Pt} {n : Int} : t.hasB n = true ↔ 0 ≤ n ∧ n ≤ (t.ns : Int) - 1 := inR_iff
set_option maxHeartbeats 4000000 in
set_option maxRecDepth 100000 in
theorem pricesP_any (Aw Af Ao Ap As : Option Addr) (cw cf co cp cs : Nat) (t : Pt) (n : Int) (w : World) (hs : t.Small) (hT : PAt w Aw Af Ao Ap As t) (hB : TabAt w) (hN : NoneAt w) :
    Calls Tryz.prog 39 #[.agg #[.int .i64 t.q.wells, .slice Aw t.q.nw cw, .slice Af t.q.nf cf, .slice Ao t.no co, .slice Ap t.np cp, .slice As t.ns cs, .int .i64 t.far, .int .i64 t.harm, .int .i64 t.many], .int .i64 n] w fun e w' => e = .returned (.tuple #[.int .i64 (t.priceOut n).1, .int .i64 (t.priceOut n).2]) ∧ Below w.heap.size w w' := by
  obtain ⟨bb, hbb⟩ : ∃ b, t.hasB n = b := ⟨_, rfl⟩
  obtain ⟨er, her⟩ : ∃ v, t.askErr bb = v := ⟨_, rfl⟩
  have HC1 := Lib.hid (fun w => hbb ▸ hasP_any Aw Af Ao Ap As cw cf co cp cs t n w hs.ns : ∀ w : World, Calls Tryz.prog 80 #[.agg #[.int .i64 t.q.wells, .slice Aw t.q.nw cw, .slice Af t.q.nf cf, .slice Ao t.no co, .slice Ap t.np cp, .slice As t.ns cs, .int .i64 t.far, .int .i64 t.harm, .int .i64 t.many], .int .i64 n] w fun e w' => e = .returned (.bool bb) ∧ Below w.heap.size w w')
  have HE := Lib.hid (show t.priceOut n = if er = 0 then t.cheap n.toNat else (0, er) by unfold Pt.priceOut; rw [hbb, her])
  have HER := Lib.hid her
  have HBB := Lib.hid hbb
  clear hbb her
  have HD0 := Lib.hid (Below.refl w.heap.size w)
  have HSM := Lib.hid hs
  have HT0 := Lib.hid hT
  have HTB0 := Lib.hid hB
  have HNA0 := Lib.hid hN
  clear hs hT hB hN
  go_enter Tryz.func39, Tryz.ntmps39
  by_cases he : er = 0
  case neg =>
    have g0 : (er != 0) = true := by simp [he]
    have HNZ := Lib.hid he
    rw [HE.out, if_neg he]
    clear he
    go_wp2_with fail
    have HCO := Lib.hid (fun (w' : World) (hb : Below (w.alloc (.cells #[.int .i64 t.q.wells, .slice Aw t.q.nw cw, .slice Af t.q.nf cf, .slice Ao t.no co, .slice Ap t.np cp, .slice As t.ns cs, .int .i64 t.far, .int .i64 t.harm, .int .i64 t.many] 62)).heap.size (w.alloc (.cells #[.int .i64 t.q.wells, .slice Aw t.q.nw cw, .slice Af t.q.nf cf, .slice Ao t.no co, .slice Ap t.np cp, .slice As t.ns cs, .int .i64 t.far, .int .i64 t.harm, .int .i64 t.many] 62)) w') => ((askP_any Aw Af Ao Ap As cw cf co cp cs t bb w' HSM.out ((HT0.out.mono (bAlloc (Below.refl _ _) (.cells #[.int .i64 t.q.wells, .slice Aw t.q.nw cw, .slice Af t.q.nf cf, .slice Ao t.no co, .slice Ap t.np cp, .slice As t.ns cs, .int .i64 t.far, .int .i64 t.harm, .int .i64 t.many] 62))).mono hb) ((HTB0.out.mono (bAlloc (Below.refl _ _) (.cells #[.int .i64 t.q.wells, .slice Aw t.q.nw cw, .slice Af t.q.nf cf, .slice Ao t.no co, .slice Ap t.np cp, .slice As t.ns cs, .int .i64 t.far, .int .i64 t.harm, .int .i64 t.many] 62))).mono hb)).mono fun e w'' h => ⟨(HER.out ▸ h.1).lower hb.size, h.2⟩ : Calls Tryz.prog 79 #[.agg #[.int .i64 t.q.wells, .slice Aw t.q.nw cw, .slice Af t.q.nf cf, .slice Ao t.no co, .slice Ap t.np cp, .slice As t.ns cs, .int .i64 t.far, .int .i64 t.harm, .int .i64 t.many], .bool bb] w' fun e w'' => StrOut w'' (w.alloc (.cells #[.int .i64 t.q.wells, .slice Aw t.q.nw cw, .slice Af t.q.nf cf, .slice Ao t.no co, .slice Ap t.np cp, .slice As t.ns cs, .int .i64 t.far, .int .i64 t.harm, .int .i64 t.many] 62)).heap.size Aw Af Ao Ap As cw cf co cp cs t er e ∧ Below w'.heap.size w' w''))
    refine wp_region_call 4 (fun v w2 => StrOut w2 (w.alloc (.cells #[.int .i64 t.q.wells, .slice Aw t.q.nw cw, .slice Af t.q.nf cf, .slice Ao t.no co, .slice Ap t.np cp, .slice As t.ns cs, .int .i64 t.far, .int .i64 t.harm, .int .i64 t.many] 62)).heap.size Aw Af Ao Ap As cw cf co cp cs t er (.returned v) ∧ Below (w.alloc (.cells #[.int .i64 t.q.wells, .slice Aw t.q.nw cw, .slice Af t.q.nf cf, .slice Ao t.no co, .slice Ap t.np cp, .slice As t.ns cs, .int .i64 t.far, .int .i64 t.harm, .int .i64 t.many] 62)).heap.size (w.alloc (.cells #[.int .i64 t.q.wells, .slice Aw t.q.nw cw, .slice Af t.q.nf cf, .slice Ao t.no co, .slice Ap t.np cp, .slice As t.ns cs, .int .i64 t.far, .int .i64 t.harm, .int .i64 t.many] 62)) w2) (by kernel_rfl) (by decide +kernel) rfl ?_
    apply Exists.intro
    refine ⟨fun K hK => ?_, ?_, fun w1 hb1 K Q' hK => ?_, ?_⟩
    · skip
      repeat (first | (refine wpCalm_skip rfl ?_) | (refine wpCalm_step rfl (fun K hK => ?_); go_simp; (first | (refine hK _ ?_; clear hK K) | (apply Exists.intro; refine ⟨fun _ => ?_, hK _ ?_⟩; ((first | (go_at_call 80; with_reducible exact newer_of (HC1.out _)))); clear hK K))))
      refine wpCalm_nil ?_
      exact hK
    · rfl
    · go_simp
      refine (HCO.out w1 hb1).mono ?_
      rintro e w2 ⟨ho, hb2⟩
      obtain ⟨v, rfl⟩ := StrOut.ret ho
      exact hK v w2 ⟨ho, bTrans hb1 hb2⟩
    clear HCO
    rintro v w2 ⟨ho, hb2⟩
    obtain rfl := Ending.returned.inj (ho.1 HNZ.out)
    clear ho
    apply Exists.intro
    refine ⟨fun K hK => ?_, fun w1 hb3 => ?_⟩
    · skip
      repeat (first | (refine wpCalm_skip rfl ?_) | (refine wpCalm_step rfl (fun K hK => ?_); go_simp; (first | (refine hK _ ?_; clear hK K) | (apply Exists.intro; refine ⟨fun _ => ?_, hK _ ?_⟩; (fail); clear hK K))))
      refine wpCalm_nil ?_
      exact hK
    have hb := bTrans hb2 hb3
    clear hb2 hb3
    have hB1 : Below w.heap.size w w1 := bTrans (bAlloc (Below.refl _ _) (.cells #[.int .i64 t.q.wells, .slice Aw t.q.nw cw, .slice Af t.q.nf cf, .slice Ao t.no co, .slice Ap t.np cp, .slice As t.ns cs, .int .i64 t.far, .int .i64 t.harm, .int .i64 t.many] 62)) hb
    have HD1 := Lib.hid (bTrans HD0.out hB1)
    have HT1 := Lib.hid (HT0.out.mono hB1)
    have HTB1 := Lib.hid (HTB0.out.mono hB1)
    have HNA1 := Lib.hid (HNA0.out.mono hB1)
    have T1 := Lib.hid (show TBox w1 w.heap.size 62 #[.int .i64 t.q.wells, .slice Aw t.q.nw cw, .slice Af t.q.nf cf, .slice Ao t.no co, .slice Ap t.np cp, .slice As t.ns cs, .int .i64 t.far, .int .i64 t.harm, .int .i64 t.many] from by have := ((TBox.new w #[.int .i64 t.q.wells, .slice Aw t.q.nw cw, .slice Af t.q.nf cf, .slice Ao t.no co, .slice Ap t.np cp, .slice As t.ns cs, .int .i64 t.far, .int .i64 t.harm, .int .i64 t.many] 62).mono (Below.refl _ _)).mono hb; simpa using this)
    clear hb hB1 HD0 HT0 HTB0 HNA0
    obtain ⟨T_0, T_1, T_2, T_3, T_4, T_5, T_6, T_7, T_8, T_l⟩ := T1.out.c9
    go_wp2_with fail
    go_ret2
    exact ⟨rfl, HD1.out⟩
  subst he
  obtain ⟨ok, rfl⟩ := Pt.askErr_zero HER.out
  have HOK := Lib.hid ok
  have hn := hasB_iff.1 HBB.out
  obtain ⟨i, rfl⟩ : ∃ i : Nat, n = (i : Int) := ⟨n.toNat, by omega⟩
  have HI := Lib.hid (show i < t.ns by omega)
  have hi1 : (i : Int) < (t.ns : Int) := by omega
  rw [HE.out, if_pos rfl, Int.toNat_natCast]
  clear ok hn
  obtain ⟨y, hy⟩ : ∃ y, (t.cheap i).1 = y := ⟨_, rfl⟩
  obtain ⟨z, hz⟩ : ∃ z, (t.cheap i).2 = z := ⟨_, rfl⟩
  rw [hy, hz]
  obtain ⟨x, hxx⟩ : ∃ x, t.spot i = x := ⟨_, rfl⟩
  have HX := Lib.hid hxx
  have HY := Lib.hid (show x.sh.cheapOut = (y, z) from Prod.ext (by rw [← hxx]; exact hy) (by rw [← hxx]; exact hz))
  clear hy hz hxx
  go_wp2_with fail
  have HCO := Lib.hid (fun (w' : World) (hb : Below (w.alloc (.cells #[.int .i64 t.q.wells, .slice Aw t.q.nw cw, .slice Af t.q.nf cf, .slice Ao t.no co, .slice Ap t.np cp, .slice As t.ns cs, .int .i64 t.far, .int .i64 t.harm, .int .i64 t.many] 62)).heap.size (w.alloc (.cells #[.int .i64 t.q.wells, .slice Aw t.q.nw cw, .slice Af t.q.nf cf, .slice Ao t.no co, .slice Ap t.np cp, .slice As t.ns cs, .int .i64 t.far, .int .i64 t.harm, .int .i64 t.many] 62)) w') => ((askP_any Aw Af Ao Ap As cw cf co cp cs t true w' HSM.out ((HT0.out.mono (bAlloc (Below.refl _ _) (.cells #[.int .i64 t.q.wells, .slice Aw t.q.nw cw, .slice Af t.q.nf cf, .slice Ao t.no co, .slice Ap t.np cp, .slice As t.ns cs, .int .i64 t.far, .int .i64 t.harm, .int .i64 t.many] 62))).mono hb) ((HTB0.out.mono (bAlloc (Below.refl _ _) (.cells #[.int .i64 t.q.wells, .slice Aw t.q.nw cw, .slice Af t.q.nf cf, .slice Ao t.no co, .slice Ap t.np cp, .slice As t.ns cs, .int .i64 t.far, .int .i64 t.harm, .int .i64 t.many] 62))).mono hb)).mono fun e w'' h => ⟨(HER.out ▸ h.1).lower hb.size, h.2⟩ : Calls Tryz.prog 79 #[.agg #[.int .i64 t.q.wells, .slice Aw t.q.nw cw, .slice Af t.q.nf cf, .slice Ao t.no co, .slice Ap t.np cp, .slice As t.ns cs, .int .i64 t.far, .int .i64 t.harm, .int .i64 t.many], .bool true] w' fun e w'' => StrOut w'' (w.alloc (.cells #[.int .i64 t.q.wells, .slice Aw t.q.nw cw, .slice Af t.q.nf cf, .slice Ao t.no co, .slice Ap t.np cp, .slice As t.ns cs, .int .i64 t.far, .int .i64 t.harm, .int .i64 t.many] 62)).heap.size Aw Af Ao Ap As cw cf co cp cs t 0 e ∧ Below w'.heap.size w' w''))
  refine wp_region_call 4 (fun v w2 => StrOut w2 (w.alloc (.cells #[.int .i64 t.q.wells, .slice Aw t.q.nw cw, .slice Af t.q.nf cf, .slice Ao t.no co, .slice Ap t.np cp, .slice As t.ns cs, .int .i64 t.far, .int .i64 t.harm, .int .i64 t.many] 62)).heap.size Aw Af Ao Ap As cw cf co cp cs t 0 (.returned v) ∧ Below (w.alloc (.cells #[.int .i64 t.q.wells, .slice Aw t.q.nw cw, .slice Af t.q.nf cf, .slice Ao t.no co, .slice Ap t.np cp, .slice As t.ns cs, .int .i64 t.far, .int .i64 t.harm, .int .i64 t.many] 62)).heap.size (w.alloc (.cells #[.int .i64 t.q.wells, .slice Aw t.q.nw cw, .slice Af t.q.nf cf, .slice Ao t.no co, .slice Ap t.np cp, .slice As t.ns cs, .int .i64 t.far, .int .i64 t.harm, .int .i64 t.many] 62)) w2) (by kernel_rfl) (by decide +kernel) rfl ?_
  apply Exists.intro
  refine ⟨fun K hK => ?_, ?_, fun w1 hb1 K Q' hK => ?_, ?_⟩
  · skip
    repeat (first | (refine wpCalm_skip rfl ?_) | (refine wpCalm_step rfl (fun K hK => ?_); go_simp; (first | (refine hK _ ?_; clear hK K) | (apply Exists.intro; refine ⟨fun _ => ?_, hK _ ?_⟩; ((first | (go_at_call 80; with_reducible exact newer_of (HC1.out _)))); clear hK K))))
    refine wpCalm_nil ?_
    exact hK
  · rfl
  · go_simp
    refine (HCO.out w1 hb1).mono ?_
    rintro e w2 ⟨ho, hb2⟩
    obtain ⟨v, rfl⟩ := StrOut.ret ho
    exact hK v w2 ⟨ho, bTrans hb1 hb2⟩
  clear HCO
  rintro v w2 ⟨ho, hb2⟩
  obtain ⟨C, Al, cl, e1, hst, hC⟩ := ho.2 rfl
  obtain rfl := Ending.returned.inj e1
  clear ho e1
  apply Exists.intro
  refine ⟨fun K hK => ?_, fun w1 hb3 => ?_⟩
  · skip
    repeat (first | (refine wpCalm_skip rfl ?_) | (refine wpCalm_step rfl (fun K hK => ?_); go_simp; (first | (refine hK _ ?_; clear hK K) | (apply Exists.intro; refine ⟨fun _ => ?_, hK _ ?_⟩; (fail); clear hK K))))
    refine wpCalm_nil ?_
    exact hK
  have hst := hst.mono hb3
  have hb := bTrans hb2 hb3
  clear hb2 hb3
  have hB1 : Below w.heap.size w w1 := bTrans (bAlloc (Below.refl _ _) (.cells #[.int .i64 t.q.wells, .slice Aw t.q.nw cw, .slice Af t.q.nf cf, .slice Ao t.no co, .slice Ap t.np cp, .slice As t.ns cs, .int .i64 t.far, .int .i64 t.harm, .int .i64 t.many] 62)) hb
  have HD1 := Lib.hid (bTrans HD0.out hB1)
  have HT1 := Lib.hid (HT0.out.mono hB1)
  have HTB1 := Lib.hid (HTB0.out.mono hB1)
  have HNA1 := Lib.hid (HNA0.out.mono hB1)
  have HST1 := Lib.hid (hst)
  have T1 := Lib.hid (show TBox w1 w.heap.size 62 #[.int .i64 t.q.wells, .slice Aw t.q.nw cw, .slice Af t.q.nf cf, .slice Ao t.no co, .slice Ap t.np cp, .slice As t.ns cs, .int .i64 t.far, .int .i64 t.harm, .int .i64 t.many] from by have := ((TBox.new w #[.int .i64 t.q.wells, .slice Aw t.q.nw cw, .slice Af t.q.nf cf, .slice Ao t.no co, .slice Ap t.np cp, .slice As t.ns cs, .int .i64 t.far, .int .i64 t.harm, .int .i64 t.many] 62).mono (Below.refl _ _)).mono hb; simpa using this)
  clear hb hB1 HD0 HT0 HTB0 HNA0
  obtain ⟨T_0, T_1, T_2, T_3, T_4, T_5, T_6, T_7, T_8, T_l⟩ := T1.out.c9
  have HC := Lib.hid hC
  clear hst hC
  obtain ⟨b, o, Ar, Af2, Ax, cr, cf2, cx, hA, hb7, hsh, _, s0, s1, s2, s3, s4, s5, s6⟩ := HT1.out.spots.get HI.out
  rw [HX.out] at s0 s1 s2 s3 s4 s5 s6 hsh
  have HSH := Lib.hid hsh
  have HXS := Lib.hid (show x.Small from by have := HSM.out.spot i HI.out; rwa [HX.out] at this)
  subst hA
  clear hsh
  go_wp2_with fail
  refine ((by have := Cheap_any Ar Af2 cr cf2 x.sh w1 HXS.out.nr HXS.out.nf HSH.out HNA1.out; rw [HY.out] at this; exact this : Calls Tryz.prog 91 #[.agg #[.slice Ar x.sh.nr cr, .slice Af2 x.sh.nf cf2, .int .i64 x.sh.deep, .int .i64 x.sh.haul, .int .i64 x.sh.rest]] w1 fun e w' => e = .returned (.tuple #[.int .i64 y, .int .i64 z]) ∧ Below w1.heap.size w1 w')).mono ?_
  rintro e w2 ⟨rfl, hb⟩
  have hB2 : Below w1.heap.size w1 w2 := bTrans (Below.refl _ _) hb
  have HD2 := Lib.hid (bTrans HD1.out hB2)
  have HT2 := Lib.hid (HT1.out.mono hB2)
  have HTB2 := Lib.hid (HTB1.out.mono hB2)
  have HNA2 := Lib.hid (HNA1.out.mono hB2)
  have HST2 := Lib.hid (HST1.out.mono hB2)
  have T2 := Lib.hid (T1.out.mono hB2)
  clear hb hB2 HD1 HT1 HTB1 HNA1 HST1 T1 T_0 T_1 T_2 T_3 T_4 T_5 T_6 T_7 T_8 T_l
  obtain ⟨T_0, T_1, T_2, T_3, T_4, T_5, T_6, T_7, T_8, T_l⟩ := T2.out.c9
  go_wp2_with fail
  go_ret2
  exact ⟨rfl, HD2.out⟩
end Go.Proofs.YthnojgdckkdcgaaGreatDoor

namespace Go.Proofs.YthnojgdckkdcgaaGreatDoor
open Go.RowKit Go.Sort Go.Shelf
section
variable {F : Fence} {n : Nat} {P : Program} {w : World}
/-- the contract of an iterator that is a method's value -/
def SeqC {α : Type} (F : Fence) (n : Nat) (P : Program) (gf : Nat) (bnd lb : Array Value) (encs : α → Array Value) (Kp : World → World → Prop) (S Sp : List α → Prop) (N : List α → α → Prop) (w : World) : Prop :=
  ∀ (l : Nat) (J Jx : List α → World → Prop) (W : World), Below w.heap.size w W → OwnFrom W.heap.size J → OwnFrom W.heap.size Jx →
    (∀ pre x W1, J pre W1 → N pre x → YieldAt F (n - 1) P l (encs x) W1 fun e W' => (e = .returned (.bool true) ∧ J (pre ++ [x]) W' ∧ Kp W1 W' ∧ KeepsFrom W.heap.size W1 W') ∨ (e = .returned (.bool false) ∧ Jx (pre ++ [x]) W' ∧ KeepsFrom W.heap.size W1 W')) →
    J [] W → CallsIn F n P gf (bnd ++ #[.func (.yield l) #[] #[]] ++ lb) W fun e W' => (∃ v, e = .returned v) ∧ ((∃ xs, S xs ∧ J xs W') ∨ (∃ pre, Sp pre ∧ Jx pre W'))
theorem wpIn_range_capsH {α : Type} {g : Operand} {ps : Array Tmp} {assign body : Code} {Q : Exit → Act → World → Prop} {a : Act}
    (hro : F.round = none) (h1 : 1 ≤ n) {gf : Nat} {bnd lb : Array Value} (hg : a.eval g = .func (.func gf) bnd lb) (hFg : F.fn gf) (eg : ∀ args w, (callFunc gf args).run P w = .ok (.enter gf args) w)
    {encs : α → Array Value} {Kp : World → World → Prop} {S Sp : List α → Prop} {N : List α → α → Prop} (hseq : SeqC F (n - 1) P gf bnd lb encs Kp S Sp N w)
    (hKt : ∀ {A B C : World}, Kp A B → Kp B C → Kp A C) (hKb : ∀ (W : World) (l : Nat) (o o' : Obj), w.heap.size ≤ l → W.heap[l]? = some o → o.isCells = false → Kp W (W.putObj l o')) (hps : ∀ x, (encs x).size = ps.size)
    (I : List α → World → Prop) (Ix : Code → List α → World → Prop) (hI : OwnFrom w.heap.size I) (hIx : ∀ c, OwnFrom w.heap.size (Ix c)) (h0 : I [] w) (Ax : α → Act → World → Prop) (hAx : ∀ x a', OwnFrom w.heap.size (fun (_ : Unit) W => Ax x a' W))
    (hassign : ∀ (l : Nat) (pre : List α) (x : α) (W : World) (K : Act → World → Prop), w.heap.size ≤ W.heap.size → I pre W → (∀ a' W', KeepsFrom w.heap.size W W' → Kp W W' → I pre W' → Ax x a' W' → K a' W') →
      assign.wpIn (F.inRound l) (n - 1 - 1) P (Exit.then K (fun _ _ _ => False)) { tmps := (ps.zip (encs x)).foldl (fun t (p, v) => t.setIfInBounds p v) a.tmps, defers := [] } W)
    (hbody : ∀ (l : Nat) (pre : List α) (x : α) (a' : Act) (W : World), w.heap.size ≤ W.heap.size → (∃ r, W.heap[l]? = some (.loop r)) → I pre W → Ax x a' W → N pre x → body.wpIn (F.inRound l) (n - 1 - 1) P (ownPostG w.heap.size Kp I Ix (pre ++ [x]) W) a' W)
    (hdone : ∀ (D : Nat) (xs : List α) (W : World), w.heap.size ≤ D → S xs → I xs W → W.heap[D]? = some (.deferred (some [])) → Q .normal { a with defers := { target := .collected D, args := #[] } :: a.defers } W)
    (hstop : ∀ (D : Nat) (c : Code) (pre : List α) (W : World), w.heap.size ≤ D → Sp pre → Ix c pre W → W.heap[D]? = some (.deferred (some [])) → c.wpIn F n P Q { a with defers := { target := .collected D, args := #[] } :: a.defers } W) :
    (Code.rangeFunc g ps assign body).wpIn F n P Q a w := by
  refine wpIn_rangeFunc fun fn hfn => ?_
  rw [hro]
  obtain ⟨rec, hrec⟩ : ∃ rec : LoopState → Option Code → Loop, rec = fun st pe => { state := st, pending := pe, fn, tmps := a.tmps, params := ps, assign, body, defers := w.heap.size } := ⟨_, rfl⟩
  obtain ⟨W1, hW1⟩ : ∃ W1, (w.alloc (.deferred (some []))).alloc (.loop (rec .ready none)) = W1 := ⟨_, rfl⟩
  have hL1 : W1.heap[w.heap.size + 1]? = some (.loop (rec .ready none)) := by
    rw [← hW1]; have := World.alloc_heap_new (w.alloc (.deferred (some []))) (.loop (rec .ready none)); rwa [World.size_alloc] at this
  have hK1 : W1.heap[w.heap.size]? = some (.deferred (some [])) := by
    rw [← hW1]; exact (Below.heap_alloc _ _ _ (by simp)).trans (World.alloc_heap_new w _)
  have hI1 : I [] W1 := by rw [← hW1]; exact hI.alloc _ (hI.alloc _ h0)
  have hb1 : Below w.heap.size w W1 := by rw [← hW1]; exact bAlloc (bAlloc (Below.refl _ _) _) _
  refine ⟨w.heap.size + 1, [{ target := .collected w.heap.size, args := #[] }], W1, { target := .fn (.func gf) lb, args := bnd ++ #[.func (.yield (w.heap.size + 1)) #[] #[]] }, W1, gf,
    bnd ++ #[.func (.yield (w.heap.size + 1)) #[] #[]] ++ lb, W1, ?_, ?_, ?_, ?_, fun _ => h1, ?_⟩
  · rw [← hW1, hrec]; exact run_enterLoop_outer _ _ _ _ _
  · simp only [resolve, hg]
    simp [go_sem]
  · intro f' hf'; simp [Target.leads] at hf'; subst hf'; exact hFg
  · simp [invoke, go_sem, eg]
  · have hz1 : W1.heap.size = w.heap.size + 1 + 1 := by rw [← hW1]; simp
    have hnw : ∀ {A B : World} {row : Option Nat}, (∀ r, row = some r → W1.heap.size ≤ r ∧ ∃ o : Obj, A.heap[r]? = some o ∧ o.isCells = false) → (∀ r, row = some r → w.heap.size ≤ r ∧ ∃ o : Obj, A.heap[r]? = some o ∧ o.isCells = false) :=
      fun hr r e => by obtain ⟨hB, ho⟩ := hr r e; exact ⟨by omega, ho⟩
    have hkp : ∀ {A B : World} {row : Option Nat} {k : Nat} {o : Obj}, A.grownBy B row → (∀ r, row = some r → W1.heap.size ≤ r ∧ ∃ o : Obj, A.heap[r]? = some o ∧ o.isCells = false) → k < W1.heap.size → A.heap[k]? = some o → B.heap[k]? = some o :=
      fun hg' hr hk ho => (hg'.block _ (Array.getElem?_eq_some_iff.1 ho).1 (fun e => by have := (hr _ e.symm).1; omega)).trans ho
    refine (hseq (w.heap.size + 1)
      (fun pre W => I pre W ∧ W.heap[w.heap.size + 1]? = some (.loop (rec .ready none)) ∧ W.heap[w.heap.size]? = some (.deferred (some [])))
      (fun pre W => ∃ c, Ix c pre W ∧ W.heap[w.heap.size + 1]? = some (.loop (rec .done (some c))) ∧ W.heap[w.heap.size]? = some (.deferred (some []))) W1 hb1
      (fun s A B row hs hg' hr => ⟨hI s A B row hs.1 hg' (hnw (B := B) hr), hkp hg' hr (by omega) hs.2.1, hkp hg' hr (by omega) hs.2.2⟩)
      (fun s A B row ⟨c, hc, hl, hk⟩ hg' hr => ⟨c, hIx c s A B row hc hg' (hnw (B := B) hr), hkp hg' hr (by omega) hl, hkp hg' hr (by omega) hk⟩) ?_ ⟨hI1, hL1, hK1⟩).mono ?_
    · rintro pre x W ⟨hi, hl, hk⟩ hlen
      have hlt : w.heap.size + 1 < W.heap.size := (Array.getElem?_eq_some_iff.1 hl).1
      have hy := run_yield (P := P) (args := encs x) hl (by rw [hrec]; exact hps x)
      rw [hrec] at hy
      refine ⟨fn, _, assign, body, hy, roundIn_of_wpIn hfn (hassign _ pre x W _ (by omega) hi ?_)⟩
      intro a' Wa hkfa hkpa hia hax
      have hla := hkfa.same _ _ (by omega) hl rfl
      have hka := hkfa.same _ _ (Nat.le_refl _) hk rfl
      have hlta : w.heap.size + 1 < Wa.heap.size := (Array.getElem?_eq_some_iff.1 hla).1
      refine ⟨_, run_beginRound hla (by rw [hrec]), ?_⟩
      obtain ⟨B, hBd⟩ : ∃ B, Wa.putObj (w.heap.size + 1) (.loop { rec .ready none with state := .busy }) = B := ⟨_, rfl⟩
      rw [hBd]
      have hl2 : B.heap[w.heap.size + 1]? = some (.loop { rec .ready none with state := .busy }) := by rw [← hBd]; exact World.putObj_heap_same hlta
      have hk2 : B.heap[w.heap.size]? = some (.deferred (some [])) := by rw [← hBd]; exact (World.putObj_heap_other (by omega)).trans hka
      have hw2 : Kp Wa B := by rw [← hBd]; exact hKb _ _ _ _ (by omega) hla rfl
      have hiB : I pre B := by rw [← hBd]; exact hI.putObj _ hia (by omega) hla rfl
      have haB : Ax x a' B := by rw [← hBd]; exact (hAx x a').putObj (s := ()) _ hax (by omega) hla rfl
      have hsB : w.heap.size ≤ B.heap.size := by have := (Array.getElem?_eq_some_iff.1 hl2).1; omega
      refine wpIn_mono (hbody _ pre x a' B hsB ⟨_, hl2⟩ hiB haB hlen) ?_
      have fin : ∀ (jump : Option Code) (W3 : World), KeepsFrom w.heap.size B W3 →
          (Instr.endRound (w.heap.size + 1) jump).run P W3 = .ok (.bool jump.isNone) (W3.putObj (w.heap.size + 1) (.loop (rec (if jump.isNone then .ready else .done) jump))) ∧
          W3.heap[w.heap.size + 1]? = some (.loop { rec .ready none with state := .busy }) ∧
          (W3.putObj (w.heap.size + 1) (.loop (rec (if jump.isNone then .ready else .done) jump))).heap[w.heap.size + 1]? = some (.loop (rec (if jump.isNone then .ready else .done) jump)) ∧
          (W3.putObj (w.heap.size + 1) (.loop (rec (if jump.isNone then .ready else .done) jump))).heap[w.heap.size]? = some (.deferred (some [])) := fun jump W3 hk3 => by
        have hl3 := hk3.same _ _ (by omega) hl2 rfl
        have := run_endRound (P := P) jump hl3
        rw [hrec] at this ⊢
        exact ⟨this, by rw [hrec] at hl3; exact hl3, World.putObj_heap_same (Array.getElem?_eq_some_iff.1 hl3).1, (World.putObj_heap_other (by omega)).trans (hk3.same _ _ (Nat.le_refl _) hk2 rfl)⟩
      rintro e a3 W3 hp
      have kput : ∀ (X : World) (o : Obj), KeepsFrom W1.heap.size X (X.putObj (w.heap.size + 1) o) := fun X o => ⟨by simp [World.putObj], fun k ob hB hk _ => (World.putObj_heap_other (by omega)).trans hk⟩
      have kall : ∀ (jump : Option Code), KeepsFrom w.heap.size B W3 → KeepsFrom W1.heap.size W (W3.putObj (w.heap.size + 1) (.loop (rec (if jump.isNone then .ready else .done) jump))) := fun jump hk3 =>
        KeepsFrom.trans (KeepsFrom.trans (KeepsFrom.trans ⟨hkfa.size, fun k o hB hk ho => hkfa.same k o (by omega) hk ho⟩ (by rw [← hBd]; exact kput _ _)) ⟨hk3.size, fun k o hB hk ho => hk3.same k o (by omega) hk ho⟩) (kput _ _)
      cases e with
      | normal =>
        obtain ⟨hk3, hkp3, hi3⟩ := hp
        obtain ⟨hr, hl3, hl4, hk4⟩ := fin none W3 hk3
        exact ⟨_, _, hr, .inl ⟨rfl, ⟨hI.putObj _ hi3 (by omega) hl3 rfl, hl4, hk4⟩, hKt hkpa (hKt (hKt hw2 hkp3) (hKb _ _ _ _ (by omega) hl3 rfl)), kall none hk3⟩⟩
      | ret =>
        obtain ⟨hr, hl3, hl4, hk4⟩ := fin (some .ret) W3 hp.1
        exact ⟨_, _, hr, .inr ⟨rfl, ⟨.ret, (hIx _).putObj _ hp.2 (by omega) hl3 rfl, hl4, hk4⟩, kall (some .ret) hp.1⟩⟩
      | exit id =>
        obtain ⟨hr, hl3, hl4, hk4⟩ := fin (some (.exit id)) W3 hp.1
        exact ⟨_, _, hr, .inr ⟨rfl, ⟨.exit id, (hIx _).putObj _ hp.2 (by omega) hl3 rfl, hl4, hk4⟩, kall (some (.exit id)) hp.1⟩⟩
      | goto t =>
        obtain ⟨hr, hl3, hl4, hk4⟩ := fin (some (.goto t)) W3 hp.1
        exact ⟨_, _, hr, .inr ⟨rfl, ⟨.goto t, (hIx _).putObj _ hp.2 (by omega) hl3 rfl, hl4, hk4⟩, kall (some (.goto t)) hp.1⟩⟩
      | panic ch => exact hp.elim
      | outgrown => exact hp.elim
    · rintro e W2 ⟨⟨v, rfl⟩, (⟨xs, hS, hi, hl, hk⟩ | ⟨pre, hSp, c, hi, hl, hk⟩)⟩
      · exact ⟨none, _, by have := run_endLoop (P := P) hl (by rw [hrec]; simp); rw [hrec] at this; exact this, hdone _ xs _ (Nat.le_refl _) hS (hI.putObj _ hi (by omega) hl rfl) ((World.putObj_heap_other (by omega)).trans hk)⟩
      · exact ⟨some c, _, by have := run_endLoop (P := P) hl (by rw [hrec]; simp); rw [hrec] at this; exact this, hstop _ c pre _ (Nat.le_refl _) hSp ((hIx c).putObj _ hi (by omega) hl rfl) ((World.putObj_heap_other (by omega)).trans hk)⟩
theorem wpIn_range_caps {α : Type} {g : Operand} {ps : Array Tmp} {assign body : Code} {Q : Exit → Act → World → Prop} {a : Act}
    (hro : F.round = none) (h1 : 1 ≤ n) {gf : Nat} {bnd lb : Array Value} (hg : a.eval g = .func (.func gf) bnd lb) (hFg : F.fn gf) (eg : ∀ args w, (callFunc gf args).run P w = .ok (.enter gf args) w)
    {encs : α → Array Value} {Kp : World → World → Prop} {S Sp : List α → Prop} {N : List α → α → Prop} (hseq : SeqC F (n - 1) P gf bnd lb encs Kp S Sp N w)
    (hKt : ∀ {A B C : World}, Kp A B → Kp B C → Kp A C) (hKb : ∀ (W : World) (l : Nat) (o o' : Obj), w.heap.size ≤ l → W.heap[l]? = some o → o.isCells = false → Kp W (W.putObj l o')) (hps : ∀ x, (encs x).size = ps.size)
    (I : List α → World → Prop) (Ix : Code → List α → World → Prop) (hI : OwnFrom w.heap.size I) (hIx : ∀ c, OwnFrom w.heap.size (Ix c)) (h0 : I [] w) (Ax : α → Act → World → Prop) (hAx : ∀ x a', OwnFrom w.heap.size (fun (_ : Unit) W => Ax x a' W))
    (hassign : ∀ (l : Nat) (pre : List α) (x : α) (W : World) (K : Act → World → Prop), w.heap.size ≤ W.heap.size → I pre W → (∀ a' W', KeepsFrom w.heap.size W W' → Kp W W' → I pre W' → Ax x a' W' → K a' W') →
      assign.wpIn (F.inRound l) (n - 1 - 1) P (Exit.then K (fun _ _ _ => False)) { tmps := (ps.zip (encs x)).foldl (fun t (p, v) => t.setIfInBounds p v) a.tmps, defers := [] } W)
    (hbody : ∀ (l : Nat) (pre : List α) (x : α) (a' : Act) (W : World), w.heap.size ≤ W.heap.size → I pre W → Ax x a' W → N pre x → body.wpIn (F.inRound l) (n - 1 - 1) P (ownPostG w.heap.size Kp I Ix (pre ++ [x]) W) a' W)
    (hdone : ∀ (D : Nat) (xs : List α) (W : World), w.heap.size ≤ D → S xs → I xs W → W.heap[D]? = some (.deferred (some [])) → Q .normal { a with defers := { target := .collected D, args := #[] } :: a.defers } W)
    (hstop : ∀ (D : Nat) (c : Code) (pre : List α) (W : World), w.heap.size ≤ D → Sp pre → Ix c pre W → W.heap[D]? = some (.deferred (some [])) → c.wpIn F n P Q { a with defers := { target := .collected D, args := #[] } :: a.defers } W) :
    (Code.rangeFunc g ps assign body).wpIn F n P Q a w :=
  wpIn_range_capsH hro h1 hg hFg eg hseq hKt hKb hps I Ix hI hIx h0 Ax hAx hassign (fun l pre x a' W hs _ hi ha hn => hbody l pre x a' W hs hi ha hn) hdone hstop
end
end Go.Proofs.YthnojgdckkdcgaaGreatDoor

namespace Go.Proofs.YthnojgdckkdcgaaGreatDoor
open Go.RowKit Go.Sort Go.Shelf
attribute [local go_sem] Oper.semAt_some
/-- the town's memory is kept, and two boxes -/
def KpW (N b1 b2 : Nat) (A B : World) : Prop := Below N A B ∧ B.heap[b1]? = A.heap[b1]? ∧ B.heap[b2]? = A.heap[b2]?
theorem KpW.trans {N b1 b2 : Nat} {A B D : World} (h : KpW N b1 b2 A B) (k : KpW N b1 b2 B D) : KpW N b1 b2 A D :=
  ⟨⟨k.1.os.trans h.1.os, k.1.tape.trans h.1.tape, k.1.output.trans h.1.output, Nat.le_trans h.1.size k.1.size, fun j hj => (k.1.block j hj).trans (h.1.block j hj)⟩, k.2.1.trans h.2.1, k.2.2.trans h.2.2⟩
theorem selTo_prefix (p : Nat → Bool) {k n : Nat} (h : k ≤ n) : selTo p k <+: selTo p n := by
  induction n with
  | zero => obtain rfl : k = 0 := by omega
            exact List.prefix_refl _
  | succ n ih =>
    rcases Nat.eq_or_lt_of_le h with rfl | h1
    · exact List.prefix_refl _
    · refine (ih (by omega)).trans ?_
      conv => rhs; unfold selTo
      split
      · exact List.prefix_append _ _
      · exact List.prefix_refl _
theorem selTo_t {p : Nat → Bool} {n : Nat} (h : p n = true) : selTo p (n + 1) = selTo p n ++ [(n : Int)] := by conv => lhs; unfold selTo; rw [if_pos h]
theorem selTo_f {p : Nat → Bool} {n : Nat} (h : p n = false) : selTo p (n + 1) = selTo p n := by conv => lhs; unfold selTo; rw [if_neg (by rw [h]; decide)]
def encI (x : Int) : Array Value := #[.int .i64 x]
def whoF (b1 b2 : Nat) : Array Value := #[.pointer (some ⟨b1, 0, none⟩), .pointer (some ⟨b2, 0, none⟩)]
theorem whoP_any (C s : Nat) (w : World) : Calls Tryz.prog 84 #[.pointer (some ⟨C, 0, none⟩), .int .i64 s] w fun e w' => e = .returned (.func (.func 133) #[] (whoF w.heap.size (w.heap.size + 1))) ∧ w' = (w.alloc (.cells #[.pointer (some ⟨C, 0, none⟩)] 135)).alloc (.cells #[.int .i64 s] 3) := by
  go_enter Tryz.func84, Tryz.ntmps84
  go_wp2_with fail
  go_ret
  exact ⟨rfl, rfl⟩
set_option maxHeartbeats 4000000 in
set_option maxRecDepth 100000 in
theorem who_seq (n C b1 b2 : Nat) (Aw Af Ao Ap As : Option Addr) (cw cf co cp cs : Nat) (t : Pt) (Al : Option Addr) (cl s : Nat) (w0 w : World) (hn : 1 ≤ n) (hst : StreetAt w0 C Aw Af Ao Ap As cw cf co cp cs t Al cl) (hb0 : Below w0.heap.size w0 w) (h1 : TBox w b1 135 #[.pointer (some ⟨C, 0, none⟩)]) (h2 : TBox w b2 3 #[.int .i64 s]) (ok : t.Ok) (hs : s < t.ns) :
    SeqC Fence.wide n Tryz.prog 133 #[] (whoF b1 b2) encI (KpW w0.heap.size b1 b2) (· = t.who s) (· <+: t.who s) (fun pre x => pre ++ [x] <+: t.who s) w := by
  intro l J Jx W hW hJ hJx hY h0
  have HY := Lib.hid hY
  have HJJ := Lib.hid hJ
  have HST := Lib.hid hst
  have HOK := Lib.hid ok
  have HS := Lib.hid hs
  have HB0 := Lib.hid (bTrans hb0 hW)
  have HX1 := Lib.hid (h1.mono hW)
  have HX2 := Lib.hid (h2.mono hW)
  have hlt0 := hst.box.lt
  obtain ⟨m, hm⟩ : ∃ m : Nat, t.q.wells = (m : Int) := ⟨t.q.wells.toNat, by have := ok.q.w0; omega⟩
  have HM := Lib.hid hm
  have m4 : m ≤ 4 := by have := ok.q.w1; omega
  have HW := Lib.hid (show t.who s = selTo (t.whoB s) m by unfold Pt.who Pt.m; rw [hm]; rfl)
  rw [HW.out] at HY ⊢
  have hbx := (hst.mono HB0.out).box
  rw [hm] at hbx
  obtain ⟨c0, c1, c2, c3, c4, c5, c6, c7, c8, c9, hCl⟩ := hbx.c10
  obtain ⟨x1, x1l⟩ := HX1.out.c1
  obtain ⟨x2, x2l⟩ := HX2.out.c1
  clear hY hJ hJx hW h1 h2 hst ok hs hb0 hm hbx
  refine callsIn_of_wp Tryz.func133 rfl trivial ?_ rfl
  simp only [whoF, Tryz.ntmps133, List.size_toArray, List.length_cons, List.length_nil, Nat.reduceAdd, Nat.reduceSub, Array.replicate_succ, Array.replicate_zero, List.push_toArray, List.append_toArray, List.nil_append, List.cons_append]
  gi_wp2
  clear c0 c1 c2 c3 c4 c5 c6 c7 c8 c9 x1 x2 x1l x2l
  gi_loopw [11] (fun i wr => ∃ v : Nat, i = .int .i64 v ∧ v ≤ m ∧ J (selTo (t.whoB s) v) wr ∧ Below w0.heap.size w0 wr ∧ TBox wr b1 135 #[.pointer (some ⟨C, 0, none⟩)] ∧ TBox wr b2 3 #[.int .i64 s]) (fun i _ => m - (intOf i).toNat)
  case atStart => exact ⟨0, rfl, Nat.zero_le _, h0, HB0.out, HX1.out, HX2.out⟩
  case round =>
    obtain ⟨v, rfl, hv, hJv, hbv, hx1, hx2⟩ := hrel
    have HJ := Lib.hid hJv
    have HB := Lib.hid hbv
    have HY1 := Lib.hid hx1
    have HY2 := Lib.hid hx2
    clear hJv hbv hx1 hx2 h0
    by_cases hvm : v < m
    · have v1 : (v : Int) < (m : Int) := by omega
      have hvw : (v : Int) < t.q.wells := by rw [HM.out]; exact v1
      obtain ⟨x1, x1l⟩ := HY1.out.c1
      obtain ⟨x2, x2l⟩ := HY2.out.c1
      obtain ⟨k, hk⟩ : ∃ k, t.inN s v = k := ⟨_, rfl⟩
      have HK := Lib.hid hk
      clear hk
      gi_wp2
      refine ⟨trivial, (callsIn_wide.2 (inP_any C Aw Af Ao Ap As cw cf co cp cs t Al cl s v _ (HST.out.mono HB.out) HOK.out HS.out hvw)).mono ?_⟩
      rintro e w4 ⟨rfl, hb4⟩
      rw [HK.out]
      have HJ4 := Lib.hid (HJJ.out _ _ _ none HJ.out (grown_below hb4) (fun r e => by cases e))
      have HB4 := Lib.hid (bTrans HB.out hb4)
      have HZ1 := Lib.hid (HY1.out.mono hb4)
      have HZ2 := Lib.hid (HY2.out.mono hb4)
      clear hb4 x1 x2 x1l x2l
      by_cases hk0 : 0 < k
      · have g0 : decide ((k : Int) > 0) = true := by simp; exact hk0
        have g1 : (0 : Int) < (k : Int) := by omega
        have HT := Lib.hid (selTo_t (p := t.whoB s) (n := v) (by unfold Pt.whoB; rw [HK.out]; simpa using hk0))
        clear hk0
        obtain ⟨fn, tmps, assign, body, hy, hR⟩ := HY.out _ (v : Int) _ HJ4.out (by rw [← HT.out]; exact selTo_prefix _ (by omega))
        simp only [encI] at hy
        gi_wp2
        refine hR.mono ?_
        rintro e W3 (⟨rfl, hJ3, hk3, _⟩ | ⟨rfl, hJx3, _⟩)
        · have HJ3 := Lib.hid (HT.out.symm ▸ hJ3 : J (selTo (t.whoB s) (v + 1)) W3)
          have HB3 := Lib.hid (show Below w0.heap.size w0 W3 from ⟨hk3.1.os.trans HB4.out.os, hk3.1.tape.trans HB4.out.tape, hk3.1.output.trans HB4.out.output, Nat.le_trans HB4.out.size hk3.1.size, fun j hj => (hk3.1.block j hj).trans (HB4.out.block j hj)⟩)
          have HU1 := Lib.hid (show TBox W3 b1 135 #[.pointer (some ⟨C, 0, none⟩)] from hk3.2.1.trans HZ1.out)
          have HU2 := Lib.hid (show TBox W3 b2 3 #[.int .i64 s] from hk3.2.2.trans HZ2.out)
          clear hJ3 hk3 hy
          gi_wp2
          go_roundw
          case rel =>
            first
            | exact ⟨v + 1, by go_num, by omega, HJ3.out, HB3.out, HU1.out, HU2.out⟩
            | ((repeat apply Exists.intro)
               refine ⟨⟨v + 1, ?_, by omega, HJ3.out, HB3.out, HU1.out, HU2.out⟩, rfl⟩
               go_num)
          case measure => simp [intOf]; omega
        · have HX := Lib.hid (HT.out.symm ▸ hJx3 : Jx (selTo (t.whoB s) (v + 1)) W3)
          clear hJx3 hy
          gi_wp2
          refine bodyPost_ret (results_none rfl _ _ _) rfl ?_
          exact ⟨⟨_, rfl⟩, .inr ⟨_, selTo_prefix _ (by omega), HX.out⟩⟩
      · skip
        have HT := Lib.hid (selTo_f (p := t.whoB s) (n := v) (by unfold Pt.whoB; rw [HK.out]; simpa using hk0))
        obtain rfl : k = 0 := by omega
        have HJ3 := Lib.hid (HT.out.symm ▸ HJ4.out : J (selTo (t.whoB s) (v + 1)) w4)
        gi_wp2
        refine ⟨(fun f h => nomatch h), ?_⟩
        gi_wp2
        go_roundw
        case rel =>
          first
          | exact ⟨v + 1, by go_num, by omega, HJ3.out, HB4.out, HZ1.out, HZ2.out⟩
          | ((repeat apply Exists.intro)
             refine ⟨⟨v + 1, ?_, by omega, HJ3.out, HB4.out, HZ1.out, HZ2.out⟩, rfl⟩
             go_num)
        case measure => simp [intOf]; omega
    · obtain rfl : v = m := by omega
      gi_wp2
      go_end0
      exact ⟨⟨_, rfl⟩, .inl ⟨_, rfl, HJ.out⟩⟩
end Go.Proofs.YthnojgdckkdcgaaGreatDoor

namespace Go.Proofs.YthnojgdckkdcgaaGreatDoor
open Go.RowKit Go.Sort Go.Shelf
attribute [local go_sem] Oper.semAt_some
def intE : Elem Int := { enc := fun x => [.int .i64 x], size := 1, ty := 3, sl := 34, z := .int .i64 0, bytes := 8 }
theorem intG : intE.Good :=
  ⟨by kernel_rfl, Tryz.underlying34, by decide, by decide, fun _ => rfl, fun x u hu => by
    obtain rfl := (by simpa [intE] using hu : u = .int .i64 x)
    rfl, by decide⟩
theorem intE_cells (l : List Int) : intE.cells l = numL l := by
  unfold Elem.cells numL
  induction l with
  | nil => rfl
  | cons x l ih => rw [List.flatMap_cons, ih]; rfl
theorem kpW_b {N b1 b2 : Nat} {w : World} (hN : N ≤ w.heap.size) (h1 : b1 < w.heap.size) (h2 : b2 < w.heap.size) (W : World) (l : Nat) (o o' : Obj) (hl : w.heap.size ≤ l) (_ : W.heap[l]? = some o) (_ : o.isCells = false) : KpW N b1 b2 W (W.putObj l o') :=
  ⟨⟨rfl, rfl, rfl, by simp [World.putObj], fun k hk => World.putObj_heap_other (by omega)⟩, World.putObj_heap_other (by omega), World.putObj_heap_other (by omega)⟩
theorem KpW.refl (N b1 b2 : Nat) (W : World) : KpW N b1 b2 W W := ⟨⟨rfl, rfl, rfl, Nat.le_refl _, fun _ _ => rfl⟩, rfl, rfl⟩
theorem owns_some {w : World} {base : Nat} {e : TypeId} {size : Nat} {v : Value} {n : Nat} {xs : List Value} (h : w.ownsRow base e size v n xs) (hn : 0 < n) : ∃ g c, v = .slice (some ⟨g, 0, none⟩) n c := by
  rcases h.2 with ⟨_, h0⟩ | ⟨g, c, _, hv, _⟩
  · omega
  · exact ⟨g, c, hv⟩
end Go.Proofs.YthnojgdckkdcgaaGreatDoor

namespace Go.Proofs.YthnojgdckkdcgaaGreatDoor
open Go.RowKit Go.Sort
/-- a list of numbers and an error -/
def NumsOut (w : World) (base : Nat) (er : Int) (L : List Int) (e : Ending) : Prop := (er = 0 → ∃ v, e = .returned (.tuple #[v, .int .i64 0]) ∧ OwnL w base v L) ∧ (er ≠ 0 → e = .returned (.tuple #[.slice none 0 0, .int .i64 er]))
end Go.Proofs.YthnojgdckkdcgaaGreatDoor

namespace Go.Proofs.YthnojgdckkdcgaaGreatDoor
open Go.RowKit Go.Sort Go.Shelf
section
variable {F : Fence} {n : Nat} {P : Program}
/-- a loop of at most m rounds, by an invariant of the frame and the world -/
theorem wpIn_loop_inv {Q : Exit → Act → World → Prop} {a : Act} {w : World} {c : Code} (m : Nat) (Inv : Nat → Act → World → Prop) (h0 : Inv 0 a w)
    (hr : ∀ i a w, i ≤ m → Inv i a w → ∀ K : Act → World → Prop, (∀ a' w', i < m → Inv (i + 1) a' w' → K a' w') → c.wpIn F n P (Exit.then K Q) a w) : (Code.loop c).wpIn F n P Q a w := by
  have key : ∀ r i a w, i + r = m → Inv i a w → Code.roundsIn F n P c Q (r + 1) a w := by
    intro r
    induction r with
    | zero =>
      intro i a w hi h
      rw [roundsIn_succ]
      exact hr i a w (by omega) h _ fun a' w' hlt _ => absurd hlt (by omega)
    | succ r ih =>
      intro i a w hi h
      rw [roundsIn_succ]
      exact hr i a w (by omega) h _ fun a' w' _ h' => ih (i + 1) a' w' (by omega) h'
  exact wpIn_loop_rounds (m + 1) (key m 0 a w (by omega) h0)
/-- the marks of ranges over functions -/
def Marks (B : Nat) (W : World) : List Deferred → Prop
  | [] => True
  | d :: ds => (∃ D, d = { target := .collected D, args := #[] } ∧ B ≤ D ∧ W.heap[D]? = some (.deferred (some [])) ∧ ∀ d' ∈ ds, d'.target ≠ .collected D) ∧ Marks B W ds
theorem Marks.keep {B : Nat} {W W' : World} : ∀ {ds : List Deferred}, Marks B W ds → (∀ D, B ≤ D → W.heap[D]? = some (.deferred (some [])) → W'.heap[D]? = some (.deferred (some []))) → Marks B W' ds
  | [], _, _ => trivial
  | _ :: _, ⟨⟨D, h1, h2, h3, h4⟩, h5⟩, hk => ⟨⟨D, h1, h2, hk D h2 h3, h4⟩, h5.keep hk⟩
theorem Marks.keeps {B : Nat} {W W' : World} {ds : List Deferred} (h : Marks B W ds) (hk : KeepsFrom B W W') : Marks B W' ds := h.keep fun D hB hD => hk.same D _ hB hD rfl
theorem Marks.push {B : Nat} {w W : World} {ds : List Deferred} (h : Marks B w ds) (hk : Below w.heap.size w W) {D : Nat} (hB : B ≤ D) (hD : w.heap.size ≤ D) (hW : W.heap[D]? = some (.deferred (some []))) : Marks B W ({ target := .collected D, args := #[] } :: ds) := by
  have hno : ∀ {ds : List Deferred}, Marks B w ds → ∀ d' ∈ ds, d'.target ≠ .collected D := by
    intro ds
    induction ds with
    | nil => exact fun _ d' h => by cases h
    | cons d ds ih =>
      rintro ⟨⟨D', h1, _, h3, _⟩, h5⟩ d' hd e
      rcases List.mem_cons.1 hd with rfl | hd
      · subst h1
        injection e with e
        have := (Array.getElem?_eq_some_iff.1 h3).1
        omega
      · exact ih h5 d' hd e
  exact ⟨⟨D, rfl, hB, hW, hno h⟩, h.keep fun D' _ hD' => (hk.block D' (Array.getElem?_eq_some_iff.1 hD').1).trans hD'⟩
theorem leaves_marks {fn : Func} {tmps : Array Value} {R : Ending → World → Prop} {B : Nat} {T : World → Prop} (hT : ∀ X D, B ≤ D → X.heap[D]? = some (.deferred (some [])) → T X → T (X.putObj D (.deferred none)))
    (hR : ∀ X, T X → ∃ v, (results fn tmps).run P X = .ok v X ∧ R (.returned v) X) : ∀ (ds : List Deferred) (W : World), Marks B W ds → T W → LeavesInM F n P fn tmps R ds .returning W
  | [], W, _, h => hR W h
  | d :: ds, W, ⟨⟨D, h1, hB, hD, hne⟩, hm⟩, h => by
    subst h1
    refine ⟨(fun e => nomatch e), .inl ⟨D, _, rfl, run_takeDeferred hD, leaves_marks hT hR ds _ ?_ (hT W D hB hD h)⟩⟩
    clear h hD
    revert hm hne
    induction ds with
    | nil => exact fun _ _ => trivial
    | cons d ds ih =>
      rintro hne ⟨⟨D', h1, h2, h3, h4⟩, h5⟩
      have hDD : D' ≠ D := fun e => hne d (List.mem_cons_self ..) (by rw [h1, e])
      exact ⟨⟨D', h1, h2, (World.putObj_heap_other hDD).trans h3, h4⟩, ih (fun d' hd => hne d' (List.mem_cons_of_mem _ hd)) h5⟩
end
end Go.Proofs.YthnojgdckkdcgaaGreatDoor

namespace Go.Proofs.YthnojgdckkdcgaaGreatDoor
open Go.RowKit Go.Sort Go.Shelf
attribute [local go_sem] Oper.semAt_some
theorem below_chain {N : Nat} {A B D : World} (h : Below N A B) (k : Below N B D) : Below N A D :=
  ⟨k.os.trans h.os, k.tape.trans h.tape, k.output.trans h.output, Nat.le_trans h.size k.size, fun j hj => (k.block j hj).trans (h.block j hj)⟩
theorem below_putB {N : Nat} {w W : World} {D : Nat} (h : Below N w W) (hD : N ≤ D) (o : Obj) : Below N w (W.putObj D o) :=
  ⟨h.os, h.tape, h.output, by simpa [World.putObj] using h.size, fun k hk => (World.putObj_heap_other (by omega)).trans (h.block k hk)⟩
end Go.Proofs.YthnojgdckkdcgaaGreatDoor

namespace Go.Proofs.YthnojgdckkdcgaaGreatDoor
open Go.RowKit Go.Sort Go.Shelf
attribute [local go_sem] Oper.semAt_some
end Go.Proofs.YthnojgdckkdcgaaGreatDoor

namespace Go.Proofs.YthnojgdckkdcgaaGreatDoor
open Go.RowKit Go.Sort Go.Shelf
attribute [local go_sem] Oper.semAt_some
end Go.Proofs.YthnojgdckkdcgaaGreatDoor

namespace Go.Proofs.YthnojgdckkdcgaaGreatDoor
open Go.RowKit Go.Sort Go.Shelf
section
variable {P : Program} {ops : Array Oper} {md : Region.Mode} {F : Fence} {k : Nat}
end
end Go.Proofs.YthnojgdckkdcgaaGreatDoor

namespace Go.Proofs.YthnojgdckkdcgaaGreatDoor
open Go.RowKit Go.Sort Go.Shelf
attribute [local go_sem] Oper.semAt_some
end Go.Proofs.YthnojgdckkdcgaaGreatDoor

namespace Go.Proofs.YthnojgdckkdcgaaGreatDoor
open Go.RowKit Go.Sort Go.Shelf
attribute [local go_sem] Oper.semAt_some
end Go.Proofs.YthnojgdckkdcgaaGreatDoor

namespace Go.Proofs.YthnojgdckkdcgaaGreatDoor
open Go.RowKit Go.Sort Go.Shelf
attribute [local go_sem] Oper.semAt_some
end Go.Proofs.YthnojgdckkdcgaaGreatDoor

namespace Go.Proofs.YthnojgdckkdcgaaGreatDoor
open Go.RowKit Go.Sort Go.Shelf
attribute [local go_sem] Oper.semAt_some
end Go.Proofs.YthnojgdckkdcgaaGreatDoor

namespace Go.Proofs.YthnojgdckkdcgaaGreatDoor
open Go.RowKit Go.Sort
/-! ### towns in which less is forbidden -/
structure Looser (o t : Pt) : Prop where
  ns : o.ns = t.ns
  m : o.m = t.m
  sh : ∀ s, s < t.ns → (o.spot s).sh = (t.spot s).sh
  pence : ∀ w, w < t.m → o.pence w = t.pence w ∧ 0 ≤ t.pence w
  who : ∀ s w, s < t.ns → w < t.m → o.whoB s w = true → t.whoB s w = true
section
variable {o t : Pt} (h : Looser o t)
include h
end
/-! ### towns that are alike -/
structure Twin (o t : Pt) : Prop where
  ns : t.ns ≤ o.ns
  m : o.m = t.m
  sh : ∀ s, s < t.ns → (o.spot s).sh = (t.spot s).sh
  pence : ∀ w, w < t.m → o.pence w = t.pence w
  who : ∀ s w, s < t.ns → w < t.m → o.whoB s w = t.whoB s w
  far : ∀ a b, a < t.ns → b < t.ns → decide (o.far ≤ dst (o.spot a).at_ (o.spot b).at_) = decide (t.far ≤ dst (t.spot a).at_ (t.spot b).at_)
section
variable {o t : Pt} (h : Twin o t)
include h
end
/-! ### pairs -/
end Go.Proofs.YthnojgdckkdcgaaGreatDoor

namespace Go.Proofs.YthnojgdckkdcgaaGreatDoor
open Go.RowKit Go.Sort
end Go.Proofs.YthnojgdckkdcgaaGreatDoor

namespace Go.Proofs.YthnojgdckkdcgaaGreatDoor
open Go.RowKit Go.Sort
end Go.Proofs.YthnojgdckkdcgaaGreatDoor

namespace Go.Proofs.YthnojgdckkdcgaaGreatDoor
open Go.RowKit Go.Sort
/-! ### An append to a row of the call's own: where the row lies afterwards -/
/-! ### Lists of lists of tests -/
end Go.Proofs.YthnojgdckkdcgaaGreatDoor

namespace Go.Proofs.YthnojgdckkdcgaaGreatDoor
open Go.RowKit Go.Sort
end Go.Proofs.YthnojgdckkdcgaaGreatDoor

namespace Go.Proofs.YthnojgdckkdcgaaGreatDoor
open Go.RowKit Go.Sort
end Go.Proofs.YthnojgdckkdcgaaGreatDoor

namespace Go.Proofs.YthnojgdckkdcgaaGreatDoor
open Go.RowKit Go.Sort
end Go.Proofs.YthnojgdckkdcgaaGreatDoor

namespace Go.Proofs.YthnojgdckkdcgaaGreatDoor
open Go.RowKit Go.Sort
end Go.Proofs.YthnojgdckkdcgaaGreatDoor

namespace Go.Proofs.YthnojgdckkdcgaaGreatDoor
open Go.RowKit Go.Sort
end Go.Proofs.YthnojgdckkdcgaaGreatDoor

namespace Go.Proofs.YthnojgdckkdcgaaGreatDoor
open Go.RowKit Go.Sort
end Go.Proofs.YthnojgdckkdcgaaGreatDoor

namespace Go.Proofs.YthnojgdckkdcgaaGreatDoor
open Go.RowKit Go.Sort
end Go.Proofs.YthnojgdckkdcgaaGreatDoor

namespace Go.Proofs.YthnojgdckkdcgaaGreatDoor
open Go.RowKit Go.Sort Go.Shelf
end Go.Proofs.YthnojgdckkdcgaaGreatDoor

namespace Go.Proofs.YthnojgdckkdcgaaGreatDoor
open Go.RowKit Go.Sort
end Go.Proofs.YthnojgdckkdcgaaGreatDoor

namespace Go.Proofs.YthnojgdckkdcgaaGreatDoor
open Go.RowKit Go.Sort
end Go.Proofs.YthnojgdckkdcgaaGreatDoor

namespace Go.Proofs.YthnojgdckkdcgaaGreatDoor
open Go.RowKit Go.Sort
end Go.Proofs.YthnojgdckkdcgaaGreatDoor

