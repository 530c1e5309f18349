/- Parts joined. -/
import Derived.Test.YtchhodikgllgnaaDoorNQF
import Derived.Test.YtchhodikgllgnaaDoorNQE
import Derived.Deep.LoopGhost
set_option linter.unusedSimpArgs false
set_option linter.unusedVariables false
/- Walks of the package quarrels: Total. Conditions: lengths are Go's; the listed table holds what it holds. -/
namespace Go.Proofs.YtchhodikgllgnaaDoor
open Go.RowKit Go.Sort
/-- what Total hands back -/
noncomputable def Qt.totalV (t : Qt) (n : Nat) (g : Nat → Int) (q : Int) : Int × Int := if t.knowErr (t.drawsB n g && t.wellB q) = 0 then spanOf (t.lowers g n q.toNat) t.leftL else (0, 0)
set_option maxHeartbeats 2000000 in
set_option maxRecDepth 100000 in
theorem totalQ_any (Aw Af A : Option Addr) (cw cf c n : Nat) (t : Qt) (g : Nat → Int) (q : Int) (w : World) (hn : n ≤ 9223372036854775807) (hI : IntsAt w A n g) (hs : t.Small) (hT : QAt w Aw Af t) (hB : TabAt w) :
    Calls Tryd.prog 55 #[.agg #[.int .i64 t.wells, .slice Aw t.nw cw, .slice Af t.nf cf], .slice A n c, .int .i64 q] w fun e w' => e = .returned (.tuple #[.agg #[.int .i64 (t.totalV n g q).1, .int .i64 (t.totalV n g q).2], .int .i64 (t.knowErr (t.drawsB n g && t.wellB q))]) ∧ Below w.heap.size w w' := by
  have hb0 := bAlloc (bAlloc (bAlloc (bAlloc (Below.refl w.heap.size w) (.cells #[.int .i64 t.wells, .slice Aw t.nw cw, .slice Af t.nf cf] 25)) (.cells #[.slice A n c] 40)) (.cells #[.int .i64 q] 3)) (.cells #[.int .i64 0, .int .i64 0] 47)
  have HT := Lib.hid (hT.mono hb0)
  have HI := Lib.hid (hI.mono hb0)
  have HTB := Lib.hid (hB.mono hb0)
  have HB := Lib.hid hb0
  clear hT hb0 hB hI
  obtain ⟨b1, h1⟩ : ∃ b, t.drawsB n g = b := ⟨_, rfl⟩
  obtain ⟨b2, h2⟩ : ∃ b, t.wellB q = b := ⟨_, rfl⟩
  have HC1 := Lib.hid (fun w hb => h1 ▸ areDrawsQ_any Aw Af A cw cf c n t g w hn (HI.out.mono hb) : ∀ w' : World, Below ((((w.alloc (.cells #[.int .i64 t.wells, .slice Aw t.nw cw, .slice Af t.nf cf] 25)).alloc (.cells #[.slice A n c] 40)).alloc (.cells #[.int .i64 q] 3)).alloc (.cells #[.int .i64 0, .int .i64 0] 47)).heap.size ((((w.alloc (.cells #[.int .i64 t.wells, .slice Aw t.nw cw, .slice Af t.nf cf] 25)).alloc (.cells #[.slice A n c] 40)).alloc (.cells #[.int .i64 q] 3)).alloc (.cells #[.int .i64 0, .int .i64 0] 47)) w' → Calls Tryd.prog 109 #[.agg #[.int .i64 t.wells, .slice Aw t.nw cw, .slice Af t.nf cf], .slice A n c] w' fun e w'' => e = .returned (.bool b1) ∧ Below w'.heap.size w' w'')
  have HC2 := Lib.hid (fun w => h2 ▸ isWellQ_any Aw Af cw cf t q w : ∀ w : World, Calls Tryd.prog 71 #[.agg #[.int .i64 t.wells, .slice Aw t.nw cw, .slice Af t.nf cf], .int .i64 q] w fun e w' => e = .returned (.bool b2) ∧ Below w.heap.size w w')
  obtain ⟨bb, hbb⟩ : ∃ bb, (b1 && b2) = bb := ⟨_, rfl⟩
  obtain ⟨er, her⟩ : ∃ er, t.knowErr bb = er := ⟨_, rfl⟩
  have HCO := Lib.hid (fun (w' : World) (hb : Below ((((w.alloc (.cells #[.int .i64 t.wells, .slice Aw t.nw cw, .slice Af t.nf cf] 25)).alloc (.cells #[.slice A n c] 40)).alloc (.cells #[.int .i64 q] 3)).alloc (.cells #[.int .i64 0, .int .i64 0] 47)).heap.size ((((w.alloc (.cells #[.int .i64 t.wells, .slice Aw t.nw cw, .slice Af t.nf cf] 25)).alloc (.cells #[.slice A n c] 40)).alloc (.cells #[.int .i64 q] 3)).alloc (.cells #[.int .i64 0, .int .i64 0] 47)) w') => ((openQ_any Aw Af cw cf t bb w' hs (HT.out.mono hb)).mono fun e w'' h => ⟨(her ▸ h.1).lower hb.size, h.2⟩ : Calls Tryd.prog 70 #[.agg #[.int .i64 t.wells, .slice Aw t.nw cw, .slice Af t.nf cf], .bool bb] w' fun e w'' => AskOut w'' ((((w.alloc (.cells #[.int .i64 t.wells, .slice Aw t.nw cw, .slice Af t.nf cf] 25)).alloc (.cells #[.slice A n c] 40)).alloc (.cells #[.int .i64 q] 3)).alloc (.cells #[.int .i64 0, .int .i64 0] 47)).heap.size Aw Af cw cf t er e ∧ Below w'.heap.size w' w''))
  have HE := Lib.hid (show t.knowErr (t.drawsB n g && t.wellB q) = er by rw [h1, h2, hbb, her])
  have HSV := Lib.hid (show t.totalV n g q = if er = 0 then spanOf (t.lowers g n q.toNat) t.leftL else (0, 0) by unfold Qt.totalV; rw [h1, h2, hbb, her])
  rw [HE.out, HSV.out]
  have HKE := Lib.hid her
  have HG := Lib.hid hbb
  have HW1 := Lib.hid h1
  have HW2 := Lib.hid h2
  clear h1 h2 her hbb HE HSV
  by_cases he : er = 0
  · subst he
    obtain ⟨ok, rfl, hne⟩ := knowErr_zero HKE.out
    have hg := HG.out
    simp only [Bool.and_eq_true] at hg
    obtain ⟨rfl, rfl⟩ := hg
    have hp := drawsB_iff.1 HW1.out
    have hq := inR_iff.1 ((wellB_ok ok q).symm.trans HW2.out)
    obtain ⟨j, rfl⟩ : ∃ j : Nat, q = (j : Int) := ⟨q.toNat, by omega⟩
    have HP := Lib.hid hp
    have HQ := Lib.hid (show (j : Int) < t.wells by omega)
    have HOK := Lib.hid ok
    rw [if_pos rfl, Int.toNat_natCast]
    obtain ⟨lo, hlo⟩ : ∃ lo, (spanOf (t.lowers g n j) t.leftL).1 = lo := ⟨_, rfl⟩
    obtain ⟨hi, hhi⟩ : ∃ hi, (spanOf (t.lowers g n j) t.leftL).2 = hi := ⟨_, rfl⟩
    have HLO := Lib.hid (show spanN (fun k => t.lowers g n j (intL0 t.leftL k)) t.leftL.length = (lo, hi) from Prod.ext hlo hhi)
    rw [hlo, hhi]
    clear hp hq hne ok hlo hhi
    go_enter Tryd.func55, Tryd.ntmps55
    go_wp2_with fail
    refine wp_region_call 9 (fun v w2 => AskOut w2 ((((w.alloc (.cells #[.int .i64 t.wells, .slice Aw t.nw cw, .slice Af t.nf cf] 25)).alloc (.cells #[.slice A n c] 40)).alloc (.cells #[.int .i64 (j : Int)] 3)).alloc (.cells #[.int .i64 0, .int .i64 0] 47)).heap.size Aw Af cw cf t 0 (.returned v) ∧ Below ((((w.alloc (.cells #[.int .i64 t.wells, .slice Aw t.nw cw, .slice Af t.nf cf] 25)).alloc (.cells #[.slice A n c] 40)).alloc (.cells #[.int .i64 (j : Int)] 3)).alloc (.cells #[.int .i64 0, .int .i64 0] 47)).heap.size ((((w.alloc (.cells #[.int .i64 t.wells, .slice Aw t.nw cw, .slice Af t.nf cf] 25)).alloc (.cells #[.slice A n c] 40)).alloc (.cells #[.int .i64 (j : Int)] 3)).alloc (.cells #[.int .i64 0, .int .i64 0] 47)) w2) (by kernel_rfl) (by decide +kernel) rfl ?_
    apply Exists.intro
    refine ⟨fun K hK => ?_, ?_, fun w1 hb1 K Q' hK => ?_, ?_⟩
    · skip
      repeat (first | (refine wpCalm_skip rfl ?_) | (refine wpCalm_step rfl (fun K hK => ?_); go_simp; (first | (refine hK _ ?_; clear hK K) | (apply Exists.intro; refine ⟨fun _ => ?_, hK _ ?_⟩; ((first | (go_at_call 109; with_reducible exact newer_of (HC1.out _ (below_regrown _ _ _))) | (go_at_call 71; with_reducible exact newer_of (HC2.out _)))); clear hK K))))
      refine wpCalm_nil ?_
      exact hK
    · rfl
    · go_simp
      refine (HCO.out w1 hb1).mono ?_
      rintro e w2 ⟨ho, hb2⟩
      obtain ⟨v, rfl⟩ := AskOut.ret ho
      exact hK v w2 ⟨ho, bTrans hb1 hb2⟩
    rintro v w2 ⟨ho, hb2⟩
    obtain ⟨C, mp, e1, hc, hC, hmp, hmb⟩ := ho.2 rfl
    obtain rfl := Ending.returned.inj e1
    have HCT2 := Lib.hid hc
    have HMP2 := Lib.hid hmp
    have HCB := Lib.hid hC
    have HMB := Lib.hid hmb
    have HB2 := Lib.hid hb2
    clear ho hb2 hc e1 hC hmp hmb
    apply Exists.intro
    refine ⟨fun K hK => ?_, fun w3 hb3 => ?_⟩
    · skip
      repeat (first | (refine wpCalm_skip rfl ?_) | (refine wpCalm_step rfl (fun K hK => ?_); go_simp; (first | (refine hK _ ?_; clear hK K) | (apply Exists.intro; refine ⟨fun _ => ?_, hK _ ?_⟩; (fail); clear hK K))))
      refine wpCalm_nil ?_
      exact hK
    have HCT := Lib.hid (HCT2.out.mono hb3)
    have HMP := Lib.hid ((hb3.block mp (Array.getElem?_eq_some_iff.1 HMP2.out).1).trans HMP2.out)
    have HB3 := Lib.hid (bTrans HB2.out hb3)
    clear hb3 HCT2 HMP2
    have HCC := Lib.hid (span_any Aw Af cw cf C mp _ t 110 #[.pointer (some ⟨w.heap.size + 1, 0, none⟩), .pointer (some ⟨w.heap.size + 1 + 1, 0, none⟩)] (fun k => t.lowers g n j (intL0 t.leftL k)) w3 HCT.out (mask_64 t HOK.out.nw) (bits_mask t HOK.out.nw) HOK.out.nw (HT.out.mono HB3.out) (HTB.out.mono HB3.out) (enters_of Tryd.func110 (by kernel_rfl)) (fun k i' hk hi w' hb A' c' hr => by
      have hbb := bTrans HB3.out hb
      have h1 : w'.cell? ⟨w.heap.size + 1, 0, none⟩ = some (.slice A n c) := (hbb.cell (p := ⟨w.heap.size + 1, 0, none⟩) (by simp <;> omega)).trans (by simp [go_sem])
      have h2 : w'.cell? ⟨w.heap.size + 1 + 1, 0, none⟩ = some (.int .i64 j) := (hbb.cell (p := ⟨w.heap.size + 1 + 1, 0, none⟩) (by simp)).trans (by simp [go_sem])
      have hz := hbb.size
      simp only [World.size_alloc] at hz
      have := total1Q_any A' A c' c (w.heap.size + 1) (w.heap.size + 1 + 1) n t.wells (t.world i') g j w' HOK.out.w1 (HOK.out.world i' hi) HP.out.1 HP.out.2 HQ.out hr (HI.out.mono hbb) (by omega) h1 (by omega) h2
      rw [← numAt_of hk] at this
      rw [← numAt_of hk]
      exact this))
    rw [HLO.out] at HCC
    obtain ⟨bc3, bf3⟩ := bcell HB3.out
    have hz3 := HB3.out.size
    simp only [World.size_alloc] at hz3
    clear HLO
    go_wp2_with fail
    refine HCC.out.mono ?_
    rintro e w4 ⟨rfl, hb4⟩
    have HB4 := Lib.hid (bTrans HB3.out hb4)
    obtain ⟨bc4, bf4⟩ := bcell HB4.out
    have hz4 := HB4.out.size
    simp only [World.size_alloc] at hz4
    clear hb4 bc3 bf3
    go_wp2_with fail
    refine bodyPost_ret (v := .tuple #[.agg #[.int .i64 lo, .int .i64 hi], .int .i64 0]) (by simp [results, Tryd.results55, go_sem, *]) rfl ⟨rfl, ?_⟩
    exact Below.setCell (p := ⟨w.heap.size + 1 + 1 + 1, 1, none⟩) (Below.setCell (p := ⟨w.heap.size + 1 + 1 + 1, 0, none⟩) (bTrans HB.out HB4.out) (by simp <;> omega) (.int .i64 lo)) (by simp <;> omega) (.int .i64 hi)
  · have g0 : (er != 0) = true := by simp [he]
    have HNZ := Lib.hid he
    rw [if_neg he]
    clear he
    go_enter Tryd.func55, Tryd.ntmps55
    go_wp2_with fail
    rcases two_ways b1 b2 with rfl | ⟨rfl, rfl⟩ | ⟨rfl, rfl⟩
    all_goals
      obtain rfl := HG.out
      refine wp_region_call 9 (fun v w2 => AskOut w2 ((((w.alloc (.cells #[.int .i64 t.wells, .slice Aw t.nw cw, .slice Af t.nf cf] 25)).alloc (.cells #[.slice A n c] 40)).alloc (.cells #[.int .i64 q] 3)).alloc (.cells #[.int .i64 0, .int .i64 0] 47)).heap.size Aw Af cw cf t er (.returned v) ∧ Below ((((w.alloc (.cells #[.int .i64 t.wells, .slice Aw t.nw cw, .slice Af t.nf cf] 25)).alloc (.cells #[.slice A n c] 40)).alloc (.cells #[.int .i64 q] 3)).alloc (.cells #[.int .i64 0, .int .i64 0] 47)).heap.size ((((w.alloc (.cells #[.int .i64 t.wells, .slice Aw t.nw cw, .slice Af t.nf cf] 25)).alloc (.cells #[.slice A n c] 40)).alloc (.cells #[.int .i64 q] 3)).alloc (.cells #[.int .i64 0, .int .i64 0] 47)) w2) (by kernel_rfl) (by decide +kernel) rfl ?_
      apply Exists.intro
      refine ⟨fun K hK => ?_, ?_, fun w1 hb1 K Q' hK => ?_, ?_⟩
      · skip
        repeat (first | (refine wpCalm_skip rfl ?_) | (refine wpCalm_step rfl (fun K hK => ?_); go_simp; (first | (refine hK _ ?_; clear hK K) | (apply Exists.intro; refine ⟨fun _ => ?_, hK _ ?_⟩; ((first | (go_at_call 109; with_reducible exact newer_of (HC1.out _ (below_regrown _ _ _))) | (go_at_call 71; with_reducible exact newer_of (HC2.out _)))); clear hK K))))
        refine wpCalm_nil ?_
        exact hK
      · rfl
      · go_simp
        refine (HCO.out w1 hb1).mono ?_
        rintro e w2 ⟨ho, hb2⟩
        obtain ⟨v, rfl⟩ := AskOut.ret ho
        exact hK v w2 ⟨ho, bTrans hb1 hb2⟩
      rintro v w2 ⟨ho, hb2⟩
      obtain rfl := Ending.returned.inj (ho.1 HNZ.out)
      have HB2 := Lib.hid hb2
      clear ho hb2
      apply Exists.intro
      refine ⟨fun K hK => ?_, fun w3 hb3 => ?_⟩
      · skip
        repeat (first | (refine wpCalm_skip rfl ?_) | (refine wpCalm_step rfl (fun K hK => ?_); go_simp; (first | (refine hK _ ?_; clear hK K) | (apply Exists.intro; refine ⟨fun _ => ?_, hK _ ?_⟩; (fail); clear hK K))))
        refine wpCalm_nil ?_
        exact hK
      have HB3 := Lib.hid (bTrans HB2.out hb3)
      clear hb3
      obtain ⟨bc3, bf3⟩ := bcell HB3.out
      have hz3 := HB3.out.size
      simp only [World.size_alloc] at hz3
      go_wp2_with fail
      refine bodyPost_ret (v := .tuple #[.agg #[.int .i64 0, .int .i64 0], .int .i64 er]) (by simp [results, Tryd.results55, go_sem, *]) rfl ⟨rfl, ?_⟩
      exact Below.setCell (p := ⟨w.heap.size + 1 + 1 + 1, 1, none⟩) (Below.setCell (p := ⟨w.heap.size + 1 + 1 + 1, 0, none⟩) (bTrans HB.out HB3.out) (by simp <;> omega) (.int .i64 0)) (by simp <;> omega) (.int .i64 0)
end Go.Proofs.YtchhodikgllgnaaDoor
/- The walk of Blame of the package quarrels. Conditions: lengths are Go's; the listed table holds what it holds. -/
namespace Go.Proofs.YtchhodikgllgnaaDoor
open Go.RowKit Go.Sort
end Go.Proofs.YtchhodikgllgnaaDoor
/- The walk of Blame of the package quarrels, whatever it is handed. Conditions: lengths are Go's; the listed table holds what it holds. -/
namespace Go.Proofs.YtchhodikgllgnaaDoor
open Go.RowKit Go.Sort
end Go.Proofs.YtchhodikgllgnaaDoor
/- Walks of the reference 05: Blame. Conditions: lengths are Go's. -/
namespace Go.Proofs.YtchhodikgllgnaaDoor
open Go.RowKit Go.Sort
end Go.Proofs.YtchhodikgllgnaaDoor
/- Walks of math/bits.OnesCount of small numbers; of the package quarrels: many, shows. Conditions: a number below 64; of shows: a valid town. -/
namespace Go.Proofs.YtchhodikgllgnaaDoor
open Go.RowKit Go.Sort
/-- how the bits are counted -/
def onesE (s : Nat) : Int :=
  let a := IntKind.u64.wrap (bits BinOp.and IntKind.u64 ((s : Int) / 2) 6148914691236517205 + bits BinOp.and IntKind.u64 (s : Int) 6148914691236517205)
  let b := IntKind.u64.wrap (bits BinOp.and IntKind.u64 (a / 4) 3689348814741910323 + bits BinOp.and IntKind.u64 a 3689348814741910323)
  let c := bits BinOp.and IntKind.u64 (IntKind.u64.wrap (b / 16 + b)) 1085102592571150095
  let d := IntKind.u64.wrap (c + c / 256)
  let e := IntKind.u64.wrap (d + d / 65536)
  let f := IntKind.u64.wrap (e + e / 4294967296)
  bits BinOp.and IntKind.i64 (wrap64 f) 127
theorem ones_fact : ∀ s : Nat, s < 64 → onesE s = ((bitsL s).length : Int) := by decide +kernel
theorem ones64_any (s : Nat) (w : World) (h1 : s < 64) :
    Calls Tryd.prog 132 #[.int .u64 s] w fun e w' => e = .returned (.int .i64 ((bitsL s).length : Int)) ∧ w = w' := by
  obtain ⟨a, ha⟩ : ∃ a, IntKind.u64.wrap (bits BinOp.and IntKind.u64 ((s : Int) / 2) 6148914691236517205 + bits BinOp.and IntKind.u64 (s : Int) 6148914691236517205) = a := ⟨_, rfl⟩
  obtain ⟨b, hb⟩ : ∃ b, IntKind.u64.wrap (bits BinOp.and IntKind.u64 (a / 4) 3689348814741910323 + bits BinOp.and IntKind.u64 a 3689348814741910323) = b := ⟨_, rfl⟩
  obtain ⟨c, hc⟩ : ∃ c, bits BinOp.and IntKind.u64 (IntKind.u64.wrap (b / 16 + b)) 1085102592571150095 = c := ⟨_, rfl⟩
  obtain ⟨d, hd⟩ : ∃ d, IntKind.u64.wrap (c + c / 256) = d := ⟨_, rfl⟩
  obtain ⟨f, hf⟩ : ∃ f, IntKind.u64.wrap (d + d / 65536) = f := ⟨_, rfl⟩
  obtain ⟨g, hg⟩ : ∃ g, IntKind.u64.wrap (f + f / 4294967296) = g := ⟨_, rfl⟩
  obtain ⟨r, hr⟩ : ∃ r, bits BinOp.and IntKind.i64 (wrap64 g) 127 = r := ⟨_, rfl⟩
  have HR := Lib.hid (show r = ((bitsL s).length : Int) by rw [← ones_fact s h1, ← hr, ← hg, ← hf, ← hd, ← hc, ← hb, ← ha]; rfl)
  rw [← HR.out]
  go_enter Tryd.func132, Tryd.ntmps132
  go_wp2_with fail
  go_ret
  exact ⟨rfl, rfl⟩
theorem ones_any (s : Nat) (w : World) (h1 : s < 64) :
    Calls Tryd.prog 116 #[.int .u64 s] w fun e w' => e = .returned (.int .i64 ((bitsL s).length : Int)) ∧ w = w' := by
  go_enter Tryd.func116, Tryd.ntmps116
  go_wp2_with fail
  refine (ones64_any s _ h1).mono ?_
  rintro e w' ⟨rfl, rfl⟩
  go_wp2_with fail
  go_ret
  exact ⟨rfl, rfl⟩
theorem many_any (s : Nat) (w : World) (h1 : s < 64) :
    Calls Tryd.prog 73 #[.int .u64 s] w fun e w' => e = .returned (.int .i64 ((bitsL s).length : Int)) ∧ w = w' := by
  go_enter Tryd.func73, Tryd.ntmps73
  go_wp2_with fail
  refine (ones_any s _ h1).mono ?_
  rintro e w' ⟨rfl, rfl⟩
  go_wp2_with fail
  go_ret
  exact ⟨rfl, rfl⟩
set_option maxHeartbeats 2000000 in
theorem shows_any (Aw Af : Option Addr) (cw cf C mp s : Nat) (t : Qt) (p q i : Nat) (w : World) (hc : CourtAt w C Aw Af cw cf t s mp) (ok : t.Ok) (hp : (p : Int) < t.wells) (hq : (q : Int) < t.wells) (hi : i < t.nw) (hT : QAt w Aw Af t) :
    Calls Tryd.prog 114 #[.pointer (some ⟨C, 0, none⟩), .agg #[.int .i64 p, .int .i64 q], .int .i64 i] w fun e w' => e = .returned (.int .i64 (t.F i (p, q))) ∧ Below w.heap.size w w' := by
  obtain ⟨b, o, b', o', c', b'', o'', c'', n, m, v, rfl, a2, a3, a4, a5, a6, a7, hv, v0, v1, hn, hm⟩ := ok.at hT hi (p := p) (q := q) (by omega) hp (by omega) hq
  rw [Int.toNat_natCast] at a5
  rw [Int.toNat_natCast] at a7
  have HV := Lib.hid (show t.F i (p, q) = v from hv.symm)
  have HB := Lib.hid (bAlloc (Below.refl w.heap.size w) (.cells #[.int .i64 p, .int .i64 q] 27))
  have x0 := hc.box.lt
  have y0 := hc.box.cell 1 _ rfl
  have p1 : (p : Int) < (n : Int) := by omega
  have p0 : (0 : Int) ≤ (p : Int) := by omega
  have q1 : (q : Int) < (m : Int) := by omega
  have q0 : (0 : Int) ≤ (q : Int) := by omega
  have i1 : (i : Int) < (t.nw : Int) := by omega
  have i0 : (0 : Int) ≤ (i : Int) := by omega
  clear hv hn hm hi hp hq ok hT hc
  go_enter Tryd.func114, Tryd.ntmps114
  go_wp2_with fail
  go_region
  go_wp2_with fail
  go_ret
  exact ⟨by rw [HV.out]; rfl, HB.out.drew⟩
end Go.Proofs.YtchhodikgllgnaaDoor
/- The walk of behind of the package quarrels. Conditions: a valid town; the listed table holds what it holds. -/
namespace Go.Proofs.YtchhodikgllgnaaDoor
open Go.RowKit Go.Sort
/-- a bit for each of some numbers -/
def maskL (l : List Int) : Nat := l.foldl (fun m i => m ||| 2 ^ i.toNat) 0
theorem maskL_snoc (l : List Int) (i : Int) : maskL (l ++ [i]) = maskL l ||| 2 ^ i.toNat := by simp [maskL]
theorem maskL_bitG (j : Nat) : ∀ (l : List Int) (a : Nat), (l.foldl (fun m i => m ||| 2 ^ i.toNat) a).testBit j = (a.testBit j || l.any fun i => i.toNat == j)
  | [], a => by simp
  | x :: l, a => by
    rw [List.foldl_cons, maskL_bitG j l, Nat.testBit_or, List.any_cons]
    by_cases h : x.toNat = j
    · subst h
      simp [Nat.testBit_two_pow_self]
    · rw [Nat.testBit_two_pow_of_ne h, beq_eq_false_iff_ne.2 h]
      simp
theorem maskL_bit (l : List Int) (j : Nat) : (maskL l).testBit j = l.any fun i => i.toNat == j := by
  unfold maskL
  rw [maskL_bitG]
  simp
theorem maskL_lt {l : List Int} (h : ∀ x, x ∈ l → x.toNat < 6) : maskL l < 64 := by
  have key : ∀ (l : List Int) (a : Nat), a < 2 ^ 6 → (∀ x, x ∈ l → x.toNat < 6) → l.foldl (fun m i => m ||| 2 ^ i.toNat) a < 2 ^ 6 := by
    intro l
    induction l with
    | nil => intro a ha _; exact ha
    | cons x l ih =>
      intro a ha hx
      rw [List.foldl_cons]
      exact ih _ (Nat.or_lt_two_pow ha (Nat.pow_lt_pow_right (by decide) (hx x (by simp)))) fun y hy => hx y (by simp [hy])
  exact key l 0 (by decide) h
theorem selTo_mem {p : Nat → Bool} {x : Int} : ∀ {n : Nat}, x ∈ selTo p n ↔ ∃ i : Nat, i < n ∧ p i = true ∧ x = i
  | 0 => by simp [selTo]
  | n + 1 => by
    have ih := selTo_mem (p := p) (x := x) (n := n)
    unfold selTo
    constructor
    · intro h
      split at h
      · rename_i hp
        rw [List.mem_append, ih] at h
        rcases h with ⟨i, h1, h2, h3⟩ | h
        · exact ⟨i, by omega, h2, h3⟩
        · exact ⟨n, by omega, hp, by simpa using h⟩
      · obtain ⟨i, h1, h2, h3⟩ := ih.1 h
        exact ⟨i, by omega, h2, h3⟩
    · rintro ⟨i, h1, h2, h3⟩
      rcases Nat.lt_or_ge i n with h4 | h4
      · have := ih.2 ⟨i, h4, h2, h3⟩
        split
        · rw [List.mem_append]; exact .inl this
        · exact this
      · obtain rfl : i = n := by omega
        rw [if_pos h2, List.mem_append]
        exact .inr (by simp [h3])
theorem selTo_filter (p : Nat → Bool) (r : Int → Bool) : ∀ n, (selTo p n).filter r = selTo (fun j => p j && r (j : Int)) n
  | 0 => rfl
  | n + 1 => by
    have ih := selTo_filter p r n
    unfold selTo
    by_cases hp : p n = true
    · rw [if_pos hp, List.filter_append, ih]
      by_cases hr : r (n : Int) = true
      · simp [hp, hr]
      · simp [hr]
    · rw [if_neg hp, ih]
      simp [hp]
theorem bits_maskL (p : Nat → Bool) : bitsL (maskL (selTo p 6)) = selTo p 6 := by
  unfold bitsL
  refine selTo_congr 6 fun j hj => ?_
  rw [maskL_bit]
  cases h : p j with
  | true => exact List.any_eq_true.2 ⟨(j : Int), selTo_mem.2 ⟨j, hj, h, rfl⟩, by simp⟩
  | false =>
    rw [List.any_eq_false]
    intro x hx
    obtain ⟨i, h1, h2, rfl⟩ := selTo_mem.1 hx
    simp
    rintro rfl
    rw [h] at h2
    cases h2
theorem bitsL_mem {s : Nat} {x : Int} : x ∈ bitsL s ↔ ∃ i : Nat, i < 6 ∧ s.testBit i = true ∧ x = i := selTo_mem
theorem shown_sel (t : Qt) (x : Tp) (s : Nat) (f : Int) : t.shown x (bitsL s) f = selTo (fun j => s.testBit j && (t.F (j : Int) x == f)) 6 := selTo_filter _ _ 6
theorem bits_shown (t : Qt) (x : Tp) (s : Nat) (f : Int) : bitsL (maskL (t.shown x (bitsL s) f)) = t.shown x (bitsL s) f := by rw [shown_sel]; exact bits_maskL _
theorem shown_64 (t : Qt) (x : Tp) (s : Nat) (f : Int) : maskL (t.shown x (bitsL s) f) < 64 := maskL_lt fun y hy => by
  obtain ⟨i, h1, _, rfl⟩ := bitsL_mem.1 (List.mem_filter.1 hy).1
  simpa using h1
theorem mask_bits : ∀ s : Nat, s < 64 → maskL (bitsL s) = s := by decide +kernel
theorem shown_same (t : Qt) (x : Tp) {s : Nat} (hs : s < 64) (f : Int) : (maskL (t.shown x (bitsL s) f) = s) ↔ t.shown x (bitsL s) f = bitsL s :=
  ⟨fun h => by rw [← bits_shown, h], fun h => by rw [h, mask_bits s hs]⟩
/-- an array of ten masks -/
structure ArrAt (w : World) (B : Nat) (m : Nat → Nat) : Prop where
  lt : B < w.heap.size
  cell : ∀ f, f < 10 → w.cell? ⟨B, f, none⟩ = some (.int .u64 (m f : Int))
  frz : ∀ o, w.frozen? ⟨B, o, none⟩ = false
theorem ArrAt.mono {w w' : World} {B : Nat} {m : Nat → Nat} (h : ArrAt w B m) (hb : Below w.heap.size w w') : ArrAt w' B m :=
  ⟨Nat.lt_of_lt_of_le h.lt hb.size, fun f hf => (hb.cell (p := ⟨B, f, none⟩) h.lt).trans (h.cell f hf), fun o => (hb.frozen (p := ⟨B, o, none⟩) h.lt).trans (h.frz o)⟩
theorem ArrAt.put {w : World} {B : Nat} {m m' : Nat → Nat} (h : ArrAt w B m) {f : Nat} (hf : f < 10) {u : Nat} (hu : m' f = u) (ho : ∀ g, g ≠ f → m' g = m g) : ArrAt (w.setCell ⟨B, f, none⟩ (.int .u64 (u : Int))) B m' :=
  ⟨by simpa [World.setCell] using h.lt, fun g hg => by
    by_cases e : g = f
    · subst e
      rw [hu]
      exact World.cell?_setCell_same _ _ _ (h.cell g hg)
    · rw [ho g e]
      exact (World.cell?_setCell_other _ _ _ _ (fun e' => by injection e' with _ e'; exact e e'.symm)).trans (h.cell g hg), fun o => by rw [World.frozen?_setCell]; exact h.frz o⟩
/-- what behind hands back -/
def behM (t : Qt) (x : Tp) (s f : Nat) : Nat := maskL (t.shown x (bitsL s) f)
def behV (t : Qt) (x : Tp) (s : Nat) : Value := .agg #[.int .u64 (behM t x s 0), .int .u64 (behM t x s 1), .int .u64 (behM t x s 2), .int .u64 (behM t x s 3), .int .u64 (behM t x s 4), .int .u64 (behM t x s 5), .int .u64 (behM t x s 6), .int .u64 (behM t x s 7), .int .u64 (behM t x s 8), .int .u64 (behM t x s 9)]
/-- after k of the worlds -/
def behK (t : Qt) (x : Tp) (s k f : Nat) : Nat := maskL (((bitsL s).take k).filter fun w => t.F w x == (f : Int))
theorem behK_zero (t : Qt) (x : Tp) (s f : Nat) : behK t x s 0 f = 0 := by simp [behK, maskL]
theorem behK_all (t : Qt) (x : Tp) (s f : Nat) : behK t x s (bitsL s).length f = behM t x s f := by
  unfold behK behM Qt.shown
  rw [List.take_length]
theorem behK_hit (t : Qt) (x : Tp) (s k f i : Nat) (hk : (bitsL s)[k]? = some (i : Int)) (hf : t.F i x = f) : behK t x s (k + 1) f = behK t x s k f ||| 2 ^ i := by
  unfold behK
  rw [List.take_add_one, hk]
  simp only [Option.toList_some, List.filter_append]
  rw [List.filter_cons, if_pos (by rw [hf]; simp)]
  rw [List.filter_nil, maskL_snoc, Int.toNat_natCast]
theorem behK_miss (t : Qt) (x : Tp) (s k f i : Nat) (hk : (bitsL s)[k]? = some (i : Int)) (hf : t.F i x ≠ f) : behK t x s (k + 1) f = behK t x s k f := by
  unfold behK
  rw [List.take_add_one, hk]
  simp only [Option.toList_some, List.filter_append]
  rw [List.filter_cons, if_neg (by simpa using hf)]
  simp
theorem behK_64 (t : Qt) (x : Tp) (s k f : Nat) : behK t x s k f < 64 := maskL_lt fun y hy => by
  obtain ⟨i, h1, _, rfl⟩ := bitsL_mem.1 (List.mem_of_mem_take (List.mem_filter.1 hy).1)
  simpa using h1
theorem set10 {base B : Nat} {w w' : World} (h : Below base w w') (hB : base ≤ B) (v0 v1 v2 v3 v4 v5 v6 v7 v8 v9 : Value) : Below base w ((((((((((w'.setCell ⟨B, 0, none⟩ v0).setCell ⟨B, 1, none⟩ v1).setCell ⟨B, 2, none⟩ v2).setCell ⟨B, 3, none⟩ v3).setCell ⟨B, 4, none⟩ v4).setCell ⟨B, 5, none⟩ v5).setCell ⟨B, 6, none⟩ v6).setCell ⟨B, 7, none⟩ v7).setCell ⟨B, 8, none⟩ v8).setCell ⟨B, 9, none⟩ v9) :=
  ((((((((((h.setCell (p := ⟨B, 0, none⟩) hB v0).setCell (p := ⟨B, 1, none⟩) hB v1).setCell (p := ⟨B, 2, none⟩) hB v2).setCell (p := ⟨B, 3, none⟩) hB v3).setCell (p := ⟨B, 4, none⟩) hB v4).setCell (p := ⟨B, 5, none⟩) hB v5).setCell (p := ⟨B, 6, none⟩) hB v6).setCell (p := ⟨B, 7, none⟩) hB v7).setCell (p := ⟨B, 8, none⟩) hB v8).setCell (p := ⟨B, 9, none⟩) hB v9)
set_option maxHeartbeats 4000000 in
set_option maxRecDepth 100000 in
theorem behind_any (Aw Af : Option Addr) (cw cf C mp s0 s : Nat) (t : Qt) (p q : Nat) (w : World) (hc : CourtAt w C Aw Af cw cf t s0 mp) (ok : t.Ok) (h64 : s < 64) (hsub : ∀ i : Nat, s.testBit i = true → i < t.nw) (hp : (p : Int) < t.wells) (hq : (q : Int) < t.wells) (hT : QAt w Aw Af t) (hB : TabAt w) :
    Calls Tryd.prog 72 #[.pointer (some ⟨C, 0, none⟩), .int .u64 s, .agg #[.int .i64 p, .int .i64 q]] w fun e w' => e = .returned (behV t (p, q) s) ∧ Below w.heap.size w w' := by
  have hb2 := bAlloc (bAlloc (Below.refl w.heap.size w) (.cells #[.int .i64 p, .int .i64 q] 27)) (.cells #[.int .u64 0, .int .u64 0, .int .u64 0, .int .u64 0, .int .u64 0, .int .u64 0, .int .u64 0, .int .u64 0, .int .u64 0, .int .u64 0] 94)
  have HCT := Lib.hid hc
  have HT := Lib.hid hT
  have HTB := Lib.hid (hB.mono hb2)
  have HOK := Lib.hid ok
  have HSUB := Lib.hid hsub
  have HP := Lib.hid hp
  have HQ := Lib.hid hq
  have HB := Lib.hid hb2
  clear hc hT hB hb2 ok hsub hp hq
  go_enter Tryd.func72, Tryd.ntmps72
  go_wp2_with fail
  refine (list_any s _ h64 HTB.out).mono ?_
  rintro e w2 ⟨⟨v, rfl, hv⟩, hb2⟩
  obtain ⟨A, c, rfl, hrow⟩ := hv.nums
  have HV := Lib.hid (hv.lower (show w.heap.size + 2 ≤ _ by simp))
  have hbA := bTrans (bAlloc (Below.refl (w.alloc (.cells #[.int .i64 p, .int .i64 q] 27)).heap.size (w.alloc (.cells #[.int .i64 p, .int .i64 q] 27))) (.cells #[.int .u64 0, .int .u64 0, .int .u64 0, .int .u64 0, .int .u64 0, .int .u64 0, .int .u64 0, .int .u64 0, .int .u64 0, .int .u64 0] 94)) hb2
  have HBA := Lib.hid hbA
  have HX2 := Lib.hid (ArrAt.mono (w := (w.alloc (.cells #[.int .i64 p, .int .i64 q] 27)).alloc (.cells #[.int .u64 0, .int .u64 0, .int .u64 0, .int .u64 0, .int .u64 0, .int .u64 0, .int .u64 0, .int .u64 0, .int .u64 0, .int .u64 0] 94)) (B := w.heap.size + 1) (m := behK t (p, q) s 0) ⟨by simp, fun f hf => by
    rw [behK_zero]
    rcases (by omega : f = 0 ∨ f = 1 ∨ f = 2 ∨ f = 3 ∨ f = 4 ∨ f = 5 ∨ f = 6 ∨ f = 7 ∨ f = 8 ∨ f = 9) with rfl | rfl | rfl | rfl | rfl | rfl | rfl | rfl | rfl | rfl <;> simp [go_sem], fun o => by simp [go_sem]⟩ hb2)
  obtain ⟨n, hn⟩ : ∃ n, (bitsL s).length = n := ⟨_, rfl⟩
  have hn6 : n ≤ 6 := by rw [← hn]; exact bitsL_len s
  rw [hn]
  have HN := Lib.hid hn
  clear hv hrow hb2 hbA hn
  go_wp2_with fail
  go_loopw [12] (fun i wr => ∃ k : Nat, i = .int .i64 k ∧ k ≤ n ∧ ArrAt wr (w.heap.size + 1) (behK t (p, q) s k) ∧ OwnL wr (w.heap.size + 2) (.slice A n c) (bitsL s) ∧ Below (w.heap.size + 1) (w.alloc (.cells #[.int .i64 p, .int .i64 q] 27)) wr) (fun i _ => n - (intOf i).toNat)
  case atStart => exact ⟨0, rfl, Nat.zero_le _, HX2.out, HN.out ▸ HV.out, by have := HBA.out; simpa using this⟩
  case round =>
    obtain ⟨k, rfl, hk, hX, hO, hbel⟩ := hrel
    have HX := Lib.hid hX
    have HO := Lib.hid hO
    have HL := Lib.hid hbel
    have hbw : Below w.heap.size w wr := bTrans (bAlloc (Below.refl w.heap.size w) (.cells #[.int .i64 p, .int .i64 q] 27)) (by simpa using hbel)
    have HBW := Lib.hid hbw
    have hsz := hbel.size
    simp only [World.size_alloc] at hsz
    have hca := (hbel.cell (p := ⟨w.heap.size, 0, none⟩) (by simp)).trans (show _ = some (.int .i64 p) by simp [go_sem])
    have hcb := (hbel.cell (p := ⟨w.heap.size, 1, none⟩) (by simp)).trans (show _ = some (.int .i64 q) by simp [go_sem])
    have hyw : w.heap.size < wr.heap.size := by omega
    clear hX hO hbel
    by_cases hlt : k < n
    · obtain ⟨x, hx⟩ : ∃ x, (bitsL s)[k]? = some x := ⟨_, List.getElem?_eq_getElem (by rw [HN.out]; exact hlt)⟩
      obtain ⟨i, hi6, hbit, rfl⟩ := bitsL_mem.1 (List.mem_of_getElem? hx)
      have hi := HSUB.out i hbit
      obtain ⟨A1, c1, e1, hrow⟩ := HO.out.nums
      injection e1 with e1 e3 e2
      clear e3
      subst e1 e2
      obtain ⟨b, o, rfl, hbs, c0⟩ := hrow.num hx
      have hF := fallAt_bd HOK.out hi (p := p) (q := q) (by omega) HP.out (by omega) HQ.out
      obtain ⟨f, hf⟩ : ∃ f : Nat, t.F i (p, q) = (f : Int) := ⟨(t.F i (p, q)).toNat, by have := hF.1; show (t.world i).fall p q = _; simp only [Qt.fallAt, Int.toNat_natCast] at hF; show _ = (((t.world i).fall p q).toNat : Int); omega⟩
      have hf9 : f < 10 := by
        have h1 : t.F i (p, q) = (t.world i).fall p q := rfl
        simp only [Qt.fallAt, Int.toNat_natCast] at hF
        omega
      have HCS := Lib.hid (fun (w' : World) (hb : Below wr.heap.size wr w') => (hf ▸ shows_any Aw Af cw cf C mp s0 t p q i w' ((HCT.out.mono hbw).mono hb) HOK.out HP.out HQ.out hi ((HT.out.mono hbw).mono hb) : Calls Tryd.prog 114 #[.pointer (some ⟨C, 0, none⟩), .agg #[.int .i64 p, .int .i64 q], .int .i64 i] w' fun e w'' => e = .returned (.int .i64 f) ∧ Below w'.heap.size w' w''))
      obtain ⟨m, hm⟩ : ∃ m, behK t (p, q) s k f = m := ⟨_, rfl⟩
      obtain ⟨u, hu⟩ : ∃ u, 2 ^ i = u := ⟨_, rfl⟩
      obtain ⟨z, hz⟩ : ∃ z, m ||| u = z := ⟨_, rfl⟩
      have y0 := HX.out.cell f hf9
      rw [hm] at y0
      have z0 := HX.out.frz f
      have x0 := HX.out.lt
      have hshl : IntKind.u64.wrap ((2 : Int) ^ i) = (u : Int) := by rw [← hu]; exact shlW i hi6
      have hor : bits BinOp.and IntKind.u64 0 0 = 0 ∧ bits BinOp.or IntKind.u64 (m : Int) (u : Int) = (z : Int) := ⟨by decide +kernel, by
        rw [← hz]
        refine orW m u ?_ ?_
        · rw [← hm]; exact behK_64 _ _ _ _ _
        · rw [← hu]; exact Nat.lt_of_lt_of_le (Nat.pow_lt_pow_right (by decide) hi6) (by decide)⟩
      have hor := hor.2
      have HHIT := Lib.hid (show behK t (p, q) s (k + 1) f = z by rw [behK_hit t (p, q) s k f i hx hf, hm, hu, hz])
      have HMISS := Lib.hid (fun g (hg : g ≠ f) => behK_miss t (p, q) s k g i hx (by rw [hf]; exact fun e => hg (by omega)))
      have f10 : (f : Int) < 10 := by omega
      have f0 : (0 : Int) ≤ (f : Int) := by omega
      have i0 : (0 : Int) ≤ (i : Int) := by omega
      have k1 : (k : Int) < (n : Int) := by omega
      clear hrow hx hF hf hm hu hz hbit hbw
      go_wp2_with fail
      refine wp_region_last 10 (by kernel_rfl) (by kernel_rfl) rfl ?_
      repeat (first | (refine wpCalm_skip rfl ?_) | (refine wpCalm_step rfl (fun K hK => ?_); go_simp; (first | (refine hK _ ?_; clear hK K) | (apply Exists.intro; refine ⟨fun _ => ?_, hK _ ?_⟩; ((go_at_call 114; with_reducible exact newer_of (HCS.out _ (below_regrown _ _ _)))); clear hK K))))
      refine wpCalm_nil ?_
      intro w9 hb9
      have HX9 := Lib.hid (HX.out.mono hb9)
      have HO9 := Lib.hid (HO.out.mono hb9)
      have HL9 := Lib.hid (HL.out.trans (hb9.mono (by omega)))
      have u0 := HX9.out.lt
      have u1 := (hb9.cell (p := ⟨w.heap.size + 1, f, none⟩) x0).trans y0
      have u2 := HX9.out.frz f
      clear hb9 c0 y0 z0 hca hcb x0
      go_wp2_with fail
      go_roundw
      case rel => exact ⟨k + 1, by go_num, by have := HN.out; omega, HX9.out.put hf9 HHIT.out HMISS.out, HO9.out.set (b := w.heap.size + 1) (by omega) f (.int .u64 z), Below.setCell (p := ⟨w.heap.size + 1, f, none⟩) HL9.out (by simp) (.int .u64 z)⟩
      case measure => simp [intOf]; omega
    · obtain rfl : k = n := by omega
      have hall : ∀ f, f < 10 → wr.cell? ⟨w.heap.size + 1, f, none⟩ = some (.int .u64 (behM t (p, q) s f : Nat)) := fun f hf => by rw [HX.out.cell f hf, ← HN.out, behK_all]
      have c0 := hall 0 (by decide)
      have c1 := hall 1 (by decide)
      have c2 := hall 2 (by decide)
      have c3 := hall 3 (by decide)
      have c4 := hall 4 (by decide)
      have c5 := hall 5 (by decide)
      have c6 := hall 6 (by decide)
      have c7 := hall 7 (by decide)
      have c8 := hall 8 (by decide)
      have c9 := hall 9 (by decide)
      have x0 := HX.out.lt
      have z0 := HX.out.frz
      clear hall hca hcb
      go_wp2_with fail
      refine bodyPost_ret (v := behV t (p, q) s) (by simp [results, behV, Tryd.results72, go_sem, *]) rfl ⟨rfl, ?_⟩
      exact set10 HBW.out (Nat.le_succ _) _ _ _ _ _ _ _ _ _ _
end Go.Proofs.YtchhodikgllgnaaDoor
/- The walk of Split of the package quarrels. Conditions: lengths are Go's; the listed table holds what it holds. -/
namespace Go.Proofs.YtchhodikgllgnaaDoor
open Go.RowKit Go.Sort
/-- how many worlds would be left at the most -/
def Qt.splitL (t : Qt) (x : Tp) (L : List Int) : Int := maxTo (fun f => ((t.shown x L (f : Int)).length : Int)) 10
/-- what Split hands back -/
noncomputable def Qt.splitV (t : Qt) (p q : Int) : Int := if t.knowErr (t.wellB p && t.wellB q) = 0 then t.splitL (p.toNat, q.toNat) t.leftL else 0
theorem mask_sub {t : Qt} (i : Nat) (h : (t.maskTo t.nw).testBit i = true) : i < t.nw := by
  rw [maskTo_bit] at h
  simp at h
  exact h.1
def behA (t : Qt) (x : Tp) (s : Nat) : Array Value := #[.int .u64 (behM t x s 0), .int .u64 (behM t x s 1), .int .u64 (behM t x s 2), .int .u64 (behM t x s 3), .int .u64 (behM t x s 4), .int .u64 (behM t x s 5), .int .u64 (behM t x s 6), .int .u64 (behM t x s 7), .int .u64 (behM t x s 8), .int .u64 (behM t x s 9)]
theorem behA_get (t : Qt) (x : Tp) (s : Nat) {k : Nat} (h : k < 10) : (behA t x s)[k]? = some (.int .u64 (behM t x s k : Int)) := by
  rcases (by omega : k = 0 ∨ k = 1 ∨ k = 2 ∨ k = 3 ∨ k = 4 ∨ k = 5 ∨ k = 6 ∨ k = 7 ∨ k = 8 ∨ k = 9) with rfl | rfl | rfl | rfl | rfl | rfl | rfl | rfl | rfl | rfl <;> rfl
theorem index10 (ba : Array Value) (k : Nat) (u : Nat) (h : ba[k]? = some (.int .u64 (u : Int))) (hk : k < 10) (w : World) : (Instr.index 94 (.agg ba) (.int .i64 k)).run Tryd.prog w = .ok (.int .u64 (u : Int)) w := by
  have h1 : (k : Int) < 10 := by omega
  have hs : (ba.extract k (k + 1)) = #[.int .u64 (u : Int)] := by
    obtain ⟨hlt, he⟩ := Array.getElem?_eq_some_iff.1 h
    apply Array.ext
    · simp; omega
    · intro i hi1 hi2
      have : i = 0 := by simp at hi2; omega
      subst this
      simpa using he
  simp [Instr.index, run_underlying Tryd.underlying94, asIntOf, go_sem, h1, hs, h]
  intro h2
  omega
set_option maxHeartbeats 4000000 in
set_option maxRecDepth 100000 in
theorem splitQ_any (Aw Af : Option Addr) (cw cf : Nat) (t : Qt) (p q : Int) (w : World) (hs : t.Small) (hT : QAt w Aw Af t) (hB : TabAt w) :
    Calls Tryd.prog 20 #[.agg #[.int .i64 t.wells, .slice Aw t.nw cw, .slice Af t.nf cf], .agg #[.int .i64 p, .int .i64 q]] w fun e w' => e = .returned (.tuple #[.int .i64 (t.splitV p q), .int .i64 (t.knowErr (t.wellB p && t.wellB q))]) ∧ Below w.heap.size w w' := by
  have hb0 := bAlloc (bAlloc (Below.refl w.heap.size w) (.cells #[.int .i64 t.wells, .slice Aw t.nw cw, .slice Af t.nf cf] 25)) (.cells #[.int .i64 p, .int .i64 q] 27)
  have HT := Lib.hid (hT.mono hb0)
  have HTB := Lib.hid (hB.mono hb0)
  have HB := Lib.hid hb0
  clear hT hb0 hB
  obtain ⟨b1, h1⟩ : ∃ b, t.wellB p = b := ⟨_, rfl⟩
  obtain ⟨b2, h2⟩ : ∃ b, t.wellB q = b := ⟨_, rfl⟩
  have HC1 := Lib.hid (fun w => h1 ▸ isWellQ_any Aw Af cw cf t p w : ∀ w : World, Calls Tryd.prog 71 #[.agg #[.int .i64 t.wells, .slice Aw t.nw cw, .slice Af t.nf cf], .int .i64 p] w fun e w' => e = .returned (.bool b1) ∧ Below w.heap.size w w')
  have HC2 := Lib.hid (fun w => h2 ▸ isWellQ_any Aw Af cw cf t q w : ∀ w : World, Calls Tryd.prog 71 #[.agg #[.int .i64 t.wells, .slice Aw t.nw cw, .slice Af t.nf cf], .int .i64 q] w fun e w' => e = .returned (.bool b2) ∧ Below w.heap.size w w')
  obtain ⟨bb, hbb⟩ : ∃ bb, (b1 && b2) = bb := ⟨_, rfl⟩
  obtain ⟨er, her⟩ : ∃ er, t.knowErr bb = er := ⟨_, rfl⟩
  have HCO := Lib.hid (fun (w' : World) (hb : Below ((w.alloc (.cells #[.int .i64 t.wells, .slice Aw t.nw cw, .slice Af t.nf cf] 25)).alloc (.cells #[.int .i64 p, .int .i64 q] 27)).heap.size ((w.alloc (.cells #[.int .i64 t.wells, .slice Aw t.nw cw, .slice Af t.nf cf] 25)).alloc (.cells #[.int .i64 p, .int .i64 q] 27)) w') => ((openQ_any Aw Af cw cf t bb w' hs (HT.out.mono hb)).mono fun e w'' h => ⟨(her ▸ h.1).lower hb.size, h.2⟩ : Calls Tryd.prog 70 #[.agg #[.int .i64 t.wells, .slice Aw t.nw cw, .slice Af t.nf cf], .bool bb] w' fun e w'' => AskOut w'' ((w.alloc (.cells #[.int .i64 t.wells, .slice Aw t.nw cw, .slice Af t.nf cf] 25)).alloc (.cells #[.int .i64 p, .int .i64 q] 27)).heap.size Aw Af cw cf t er e ∧ Below w'.heap.size w' w''))
  have HE := Lib.hid (show t.knowErr (t.wellB p && t.wellB q) = er by rw [h1, h2, hbb, her])
  have HSV := Lib.hid (show t.splitV p q = if er = 0 then t.splitL (p.toNat, q.toNat) t.leftL else 0 by unfold Qt.splitV; rw [h1, h2, hbb, her])
  rw [HE.out, HSV.out]
  have HKE := Lib.hid her
  have HG := Lib.hid hbb
  have HW1 := Lib.hid h1
  have HW2 := Lib.hid h2
  clear h1 h2 her hbb HE HSV
  by_cases he : er = 0
  · subst he
    obtain ⟨ok, rfl, hne⟩ := knowErr_zero HKE.out
    have hg := HG.out
    simp only [Bool.and_eq_true] at hg
    obtain ⟨rfl, rfl⟩ := hg
    have hp := inR_iff.1 ((wellB_ok ok p).symm.trans HW1.out)
    have hq := inR_iff.1 ((wellB_ok ok q).symm.trans HW2.out)
    obtain ⟨i, rfl⟩ : ∃ i : Nat, p = (i : Int) := ⟨p.toNat, by omega⟩
    obtain ⟨j, rfl⟩ : ∃ j : Nat, q = (j : Int) := ⟨q.toNat, by omega⟩
    have HP := Lib.hid (show (i : Int) < t.wells by omega)
    have HQ := Lib.hid (show (j : Int) < t.wells by omega)
    have HOK := Lib.hid ok
    have h64 := mask_64 t ok.nw
    obtain ⟨s, hsk⟩ : ∃ s, t.maskTo t.nw = s := ⟨_, rfl⟩
    have HBM := Lib.hid (show bitsL s = t.leftL by rw [← hsk]; exact bits_mask t ok.nw)
    have HSUB := Lib.hid (show ∀ i : Nat, s.testBit i = true → i < t.nw by rw [← hsk]; exact fun i h => mask_sub i h)
    have HSK := Lib.hid hsk
    rw [hsk] at h64
    rw [if_pos rfl, Int.toNat_natCast, Int.toNat_natCast]
    clear hp hq hne ok hsk
    go_enter Tryd.func20, Tryd.ntmps20
    go_wp2_with fail
    refine wp_region_call 11 (fun v w2 => AskOut w2 ((w.alloc (.cells #[.int .i64 t.wells, .slice Aw t.nw cw, .slice Af t.nf cf] 25)).alloc (.cells #[.int .i64 (i : Int), .int .i64 (j : Int)] 27)).heap.size Aw Af cw cf t 0 (.returned v) ∧ Below ((w.alloc (.cells #[.int .i64 t.wells, .slice Aw t.nw cw, .slice Af t.nf cf] 25)).alloc (.cells #[.int .i64 (i : Int), .int .i64 (j : Int)] 27)).heap.size ((w.alloc (.cells #[.int .i64 t.wells, .slice Aw t.nw cw, .slice Af t.nf cf] 25)).alloc (.cells #[.int .i64 (i : Int), .int .i64 (j : Int)] 27)) w2) (by kernel_rfl) (by decide +kernel) rfl ?_
    apply Exists.intro
    refine ⟨fun K hK => ?_, ?_, fun w1 hb1 K Q' hK => ?_, ?_⟩
    · skip
      repeat (first | (refine wpCalm_skip rfl ?_) | (refine wpCalm_step rfl (fun K hK => ?_); go_simp; (first | (refine hK _ ?_; clear hK K) | (apply Exists.intro; refine ⟨fun _ => ?_, hK _ ?_⟩; ((first | (go_at_call 71; with_reducible exact newer_of (HC1.out _)) | (go_at_call 71; with_reducible exact newer_of (HC2.out _)))); clear hK K))))
      refine wpCalm_nil ?_
      exact hK
    · rfl
    · go_simp
      refine (HCO.out w1 hb1).mono ?_
      rintro e w2 ⟨ho, hb2⟩
      obtain ⟨v, rfl⟩ := AskOut.ret ho
      exact hK v w2 ⟨ho, bTrans hb1 hb2⟩
    rintro v w2 ⟨ho, hb2⟩
    obtain ⟨C, mp, e1, hc, hC, hmp, hmb⟩ := ho.2 rfl
    obtain rfl := Ending.returned.inj e1
    have HCT2 := Lib.hid hc
    have HMP2 := Lib.hid hmp
    have HCB := Lib.hid hC
    have HMB := Lib.hid hmb
    have HB2 := Lib.hid hb2
    clear ho hb2 hc e1 hC hmp hmb
    apply Exists.intro
    refine ⟨fun K hK => ?_, fun w3 hb3 => ?_⟩
    · skip
      repeat (first | (refine wpCalm_skip rfl ?_) | (refine wpCalm_step rfl (fun K hK => ?_); go_simp; (first | (refine hK _ ?_; clear hK K) | (apply Exists.intro; refine ⟨fun _ => ?_, hK _ ?_⟩; (fail); clear hK K))))
      refine wpCalm_nil ?_
      exact hK
    have HCT := Lib.hid (HCT2.out.mono hb3)
    have HMP := Lib.hid ((hb3.block mp (Array.getElem?_eq_some_iff.1 HMP2.out).1).trans HMP2.out)
    have HB3 := Lib.hid (bTrans HB2.out hb3)
    clear hb3 HCT2 HMP2
    rw [HSK.out] at HCT
    have x0 := HCT.out.box.lt
    have y0 := HCT.out.box.cell 3 _ rfl
    obtain ⟨bc3, bf3⟩ := bcell HB3.out
    have hz3 := HB3.out.size
    simp only [World.size_alloc] at hz3
    have hy3 : w.heap.size + 1 < w3.heap.size := by omega
    have HBC := Lib.hid (fun (w' : World) (hb : Below w3.heap.size w3 w') => behind_any Aw Af cw cf C mp s s t i j w' (HCT.out.mono hb) HOK.out h64 HSUB.out HP.out HQ.out ((HT.out.mono HB3.out).mono hb) ((HTB.out.mono HB3.out).mono hb))
    go_wp2_with fail
    refine wp_region_quiet_below (by kernel_rfl) (by kernel_rfl) ?_
    repeat (go_big_quiet_step (((go_at_call 72; with_reducible exact Calls.regrown_of (HBC.out _ (below_regrown _ _ _))))))
    refine wpQuiet_nil ?_
    intro w4 hw4
    have HB4 := Lib.hid (bTrans HB3.out (below_of_regrown hw4))
    clear hw4 bc3 bf3 y0 x0
    obtain ⟨ba, hba⟩ : ∃ ba, behA t (i, j) s = ba := ⟨_, rfl⟩
    have HBA := Lib.hid hba
    have hbs : ba.size = 10 := by rw [← hba]; rfl
    rw [show behV t (i, j) s = .agg ba by rw [← hba]; rfl]
    clear hba
    go_wp2_with fail
    go_loopw [8, 36] (fun m i' wr => ∃ k : Nat, i' = .int .i64 k ∧ k ≤ 10 ∧ m = .int .i64 (maxTo (fun f => ((t.shown (i, j) t.leftL (f : Int)).length : Int)) k) ∧ wr = w4) (fun _ i _ => 10 - (intOf i).toNat)
    case atStart => exact ⟨0, rfl, by omega, rfl, rfl⟩
    case round =>
      obtain ⟨k, rfl, hk, rfl, rfl⟩ := hrel
      obtain ⟨m, hm⟩ : ∃ m, maxTo (fun f => ((t.shown (i, j) t.leftL (f : Int)).length : Int)) k = m := ⟨_, rfl⟩
      rw [hm]
      have HM := Lib.hid hm
      clear hm
      by_cases hlt : k < 10
      · have hget := behA_get t (i, j) s hlt
        rw [HBA.out] at hget
        obtain ⟨u, hu⟩ : ∃ u, behM t (i, j) s k = u := ⟨_, rfl⟩
        rw [hu] at hget
        have HU := Lib.hid (show u < 64 by rw [← hu]; exact shown_64 _ _ _ _)
        obtain ⟨c, hc⟩ : ∃ c : Int, ((bitsL u).length : Int) = c := ⟨_, rfl⟩
        have HMC := Lib.hid (fun w => hc ▸ many_any u w HU.out : ∀ w : World, Calls Tryd.prog 73 #[.int .u64 u] w fun e w' => e = .returned (.int .i64 c) ∧ w = w')
        obtain ⟨m2, hm2⟩ : ∃ m2, (if m < c then c else m) = m2 := ⟨_, rfl⟩
        have HS := Lib.hid (show maxTo (fun f => ((t.shown (i, j) t.leftL (f : Int)).length : Int)) (k + 1) = m2 by
          show max (maxTo _ k) _ = _
          rw [HM.out, ← HBM.out]
          show max m ((t.shown (i, j) (bitsL s) (k : Int)).length : Int) = m2
          rw [← bits_shown, show maskL (t.shown (i, j) (bitsL s) (k : Int)) = u from hu, hc, ← hm2]
          split <;> omega)
        have k1 : (k : Int) < 10 := by omega
        have k0 : (0 : Int) ≤ (k : Int) := by omega
        have hix := index10 ba k u hget hlt wr
        clear hu hc hget
        go_wp2_with fail
        refine (HMC.out _).mono ?_
        rintro e w' ⟨rfl, rfl⟩
        go_wp2_with fail
        go_roundw
        case rel =>
          first
          | exact ⟨k + 1, by go_num, by omega, by rw [HS.out], trivial⟩
          | ((repeat apply Exists.intro)
             refine ⟨⟨k + 1, ?_, by omega, by rw [HS.out], rfl⟩, rfl⟩
             go_num)
        case measure => simp [intOf]; omega
      · obtain rfl : k = 10 := by omega
        go_wp2_with fail
        go_ret2
        exact ⟨by rw [← HM.out]; rfl, bTrans HB.out HB4.out⟩
  · have g0 : (er != 0) = true := by simp [he]
    have HNZ := Lib.hid he
    rw [if_neg he]
    clear he
    go_enter Tryd.func20, Tryd.ntmps20
    go_wp2_with fail
    rcases two_ways b1 b2 with rfl | ⟨rfl, rfl⟩ | ⟨rfl, rfl⟩
    all_goals
      obtain rfl := HG.out
      refine wp_region_call 11 (fun v w2 => AskOut w2 ((w.alloc (.cells #[.int .i64 t.wells, .slice Aw t.nw cw, .slice Af t.nf cf] 25)).alloc (.cells #[.int .i64 p, .int .i64 q] 27)).heap.size Aw Af cw cf t er (.returned v) ∧ Below ((w.alloc (.cells #[.int .i64 t.wells, .slice Aw t.nw cw, .slice Af t.nf cf] 25)).alloc (.cells #[.int .i64 p, .int .i64 q] 27)).heap.size ((w.alloc (.cells #[.int .i64 t.wells, .slice Aw t.nw cw, .slice Af t.nf cf] 25)).alloc (.cells #[.int .i64 p, .int .i64 q] 27)) w2) (by kernel_rfl) (by decide +kernel) rfl ?_
      apply Exists.intro
      refine ⟨fun K hK => ?_, ?_, fun w1 hb1 K Q' hK => ?_, ?_⟩
      · skip
        repeat (first | (refine wpCalm_skip rfl ?_) | (refine wpCalm_step rfl (fun K hK => ?_); go_simp; (first | (refine hK _ ?_; clear hK K) | (apply Exists.intro; refine ⟨fun _ => ?_, hK _ ?_⟩; ((first | (go_at_call 71; with_reducible exact newer_of (HC1.out _)) | (go_at_call 71; with_reducible exact newer_of (HC2.out _)))); clear hK K))))
        refine wpCalm_nil ?_
        exact hK
      · rfl
      · go_simp
        refine (HCO.out w1 hb1).mono ?_
        rintro e w2 ⟨ho, hb2⟩
        obtain ⟨v, rfl⟩ := AskOut.ret ho
        exact hK v w2 ⟨ho, bTrans hb1 hb2⟩
      rintro v w2 ⟨ho, hb2⟩
      obtain rfl := Ending.returned.inj (ho.1 HNZ.out)
      have HB2 := Lib.hid hb2
      clear ho hb2
      apply Exists.intro
      refine ⟨fun K hK => ?_, fun w3 hb3 => ?_⟩
      · skip
        repeat (first | (refine wpCalm_skip rfl ?_) | (refine wpCalm_step rfl (fun K hK => ?_); go_simp; (first | (refine hK _ ?_; clear hK K) | (apply Exists.intro; refine ⟨fun _ => ?_, hK _ ?_⟩; (fail); clear hK K))))
        refine wpCalm_nil ?_
        exact hK
      have HB3 := Lib.hid (bTrans HB2.out hb3)
      clear hb3
      go_wp2_with fail
      go_ret2
      exact ⟨rfl, bTrans HB.out HB3.out⟩
end Go.Proofs.YtchhodikgllgnaaDoor
/- Walks of the package quarrels: told and its closure. Conditions: a valid town, tests and worlds of it. -/
namespace Go.Proofs.YtchhodikgllgnaaDoor
open Go.RowKit Go.Sort
/-- tests of a town -/
def Qt.TestsOk (t : Qt) (l : List Tp) : Prop := ∀ x, x ∈ l → (x.1 : Int) < t.wells ∧ (x.2 : Int) < t.wells
/-- pairs of worlds of a town -/
def Qt.PairsOk (t : Qt) (ps : List (Int × Int)) : Prop := ∀ x, x ∈ ps → ∃ i j : Nat, x = ((i : Int), (j : Int)) ∧ i < t.nw ∧ j < t.nw
def tget (l : List Tp) (i : Nat) : Tp := l[i]?.getD (0, 0)
theorem tget_mem {l : List Tp} {i : Nat} (h : i < l.length) : tget l i ∈ l := by
  unfold tget
  rw [List.getElem?_eq_getElem h]
  exact List.getElem_mem h
theorem tget_some {l : List Tp} {i : Nat} (h : i < l.length) : l[i]? = some (tget l i) := by
  unfold tget
  rw [List.getElem?_eq_getElem h]
  rfl
theorem testsAt_row {w : World} {A : Option Addr} {l : List Tp} (h : RowAt w A (tstE.cells l)) : TestsAt w A l.length (fun i => ⟨((tget l i).1 : Int), ((tget l i).2 : Int)⟩) := by
  cases l with
  | nil => exact .inl rfl
  | cons x l' =>
    obtain ⟨b, o, h1, h2, _⟩ := SliceE.tst h (j := 0) (tget_some (by simp))
    refine .inr ⟨b, o, h1, h2, fun i hi => ?_⟩
    obtain ⟨b', o', h1', _, h3, h4⟩ := SliceE.tst h (j := i) (tget_some hi)
    rw [h1] at h1'
    injection h1' with h1'
    injection h1' with e1 e2
    subst e1 e2
    exact ⟨h3, h4⟩
theorem any_tget (l : List Tp) (p : Tp → Bool) : anyB (fun i => p (tget l i)) l.length = l.any p := by
  refine Bool.eq_iff_iff.2 ?_
  rw [anyB_true, List.any_eq_true]
  constructor
  · rintro ⟨i, hi, h⟩
    exact ⟨_, tget_mem hi, h⟩
  · rintro ⟨x, hx, h⟩
    obtain ⟨i, hi, rfl⟩ := List.getElem_of_mem hx
    exact ⟨i, hi, by unfold tget; rw [List.getElem?_eq_getElem hi]; exact h⟩
set_option maxHeartbeats 2000000 in
theorem told1_any (Aw Af : Option Addr) (cw cf C mp s a d : Nat) (t : Qt) (p q i j : Nat) (w : World) (hc : CourtAt w C Aw Af cw cf t s mp) (ok : t.Ok) (hp : (p : Int) < t.wells) (hq : (q : Int) < t.wells) (hi : i < t.nw) (hj : j < t.nw) (hT : QAt w Aw Af t)
    (ha : a < w.heap.size) (hca : w.cell? ⟨a, 0, none⟩ = some (.pointer (some ⟨C, 0, none⟩))) (hd : d < w.heap.size) (hcd : w.cell? ⟨d, 0, none⟩ = some (.int .i64 i)) (hce : w.cell? ⟨d, 1, none⟩ = some (.int .i64 j)) :
    Calls Tryd.prog 134 #[.agg #[.int .i64 p, .int .i64 q], .pointer (some ⟨a, 0, none⟩), .pointer (some ⟨d, 0, none⟩)] w fun e w' => e = .returned (.bool (t.apart (p, q) i j)) ∧ Below w.heap.size w w' := by
  have hb0 := bAlloc (Below.refl w.heap.size w) (.cells #[.int .i64 p, .int .i64 q] 27)
  have HCT := Lib.hid (hc.mono hb0)
  have HT := Lib.hid (hT.mono hb0)
  have HB := Lib.hid hb0
  have HOK := Lib.hid ok
  have HP := Lib.hid hp
  have HQ := Lib.hid hq
  obtain ⟨u, hu⟩ : ∃ u, t.F i (p, q) = u := ⟨_, rfl⟩
  obtain ⟨v, hv⟩ : ∃ v, t.F j (p, q) = v := ⟨_, rfl⟩
  have HE := Lib.hid (show t.apart (p, q) i j = (u != v) by unfold Qt.apart; rw [hu, hv])
  have HC1 := Lib.hid (fun (w' : World) (hb : Below (w.alloc (.cells #[.int .i64 p, .int .i64 q] 27)).heap.size (w.alloc (.cells #[.int .i64 p, .int .i64 q] 27)) w') => (hu ▸ shows_any Aw Af cw cf C mp s t p q i w' (HCT.out.mono hb) HOK.out HP.out HQ.out hi (HT.out.mono hb) : Calls Tryd.prog 114 #[.pointer (some ⟨C, 0, none⟩), .agg #[.int .i64 p, .int .i64 q], .int .i64 i] w' fun e w'' => e = .returned (.int .i64 u) ∧ Below w'.heap.size w' w''))
  have HC2 := Lib.hid (fun (w' : World) (hb : Below (w.alloc (.cells #[.int .i64 p, .int .i64 q] 27)).heap.size (w.alloc (.cells #[.int .i64 p, .int .i64 q] 27)) w') => (hv ▸ shows_any Aw Af cw cf C mp s t p q j w' (HCT.out.mono hb) HOK.out HP.out HQ.out hj (HT.out.mono hb) : Calls Tryd.prog 114 #[.pointer (some ⟨C, 0, none⟩), .agg #[.int .i64 p, .int .i64 q], .int .i64 j] w' fun e w'' => e = .returned (.int .i64 v) ∧ Below w'.heap.size w' w''))
  clear hu hv hc hT hb0 ok hp hq
  go_enter Tryd.func134, Tryd.ntmps134
  go_wp2_with fail
  refine wp_region_quiet_below (by kernel_rfl) (by kernel_rfl) ?_
  repeat (go_big_quiet_step (((first | (go_at_call 114; with_reducible exact Calls.regrown_of (HC1.out _ (below_regrown _ _ _))) | (go_at_call 114; with_reducible exact Calls.regrown_of (HC2.out _ (below_regrown _ _ _)))))))
  refine wpQuiet_nil ?_
  intro w4 hw4
  have HB4 := Lib.hid (below_of_regrown hw4)
  clear hw4
  go_wp2_with fail
  go_ret
  exact ⟨by rw [HE.out]; first | rfl | exact ret_bool (by by_cases h : u = v <;> simp [h]), bTrans HB.out HB4.out⟩
theorem told_step {t : Qt} {l : List Tp} {ps : List (Int × Int)} {k : Nat} {x : Int × Int} (hk : ps[k]? = some x) (h : t.someB l x.1 x.2 = false) : t.told l ps = false := by
  unfold Qt.told
  rw [List.all_eq_false]
  exact ⟨x, List.mem_of_getElem? hk, by rw [h]; decide⟩
theorem told_all {t : Qt} {l : List Tp} {ps : List (Int × Int)} (h : ∀ (k : Nat) (x : Int × Int), ps[k]? = some x → t.someB l x.1 x.2 = true) : t.told l ps = true := by
  unfold Qt.told
  rw [List.all_eq_true]
  intro x hx
  obtain ⟨k, hk, rfl⟩ := List.getElem_of_mem hx
  exact h k _ (List.getElem?_eq_getElem hk)
set_option maxHeartbeats 4000000 in
set_option maxRecDepth 100000 in
theorem told_any (Aw Af A Ap : Option Addr) (cw cf C mp s c cp : Nat) (t : Qt) (l : List Tp) (ps : List (Int × Int)) (w : World) (hc : CourtAt w C Aw Af cw cf t s mp) (ok : t.Ok) (hl : t.TestsOk l) (hp : t.PairsOk ps) (hT : QAt w Aw Af t) (hA : RowAt w A (tstE.cells l)) (hP : RowAt w Ap (prE.cells ps)) (hlen : l.length ≤ 100000) (hplen : ps.length ≤ 100000) :
    Calls Tryd.prog 118 #[.pointer (some ⟨C, 0, none⟩), .slice A l.length c, .slice Ap ps.length cp] w fun e w' => e = .returned (.bool (t.told l ps)) ∧ Below w.heap.size w w' := by
  have hb0 := bAlloc (Below.refl w.heap.size w) (.cells #[.pointer (some ⟨C, 0, none⟩)] 89)
  have HCT := Lib.hid (hc.mono hb0)
  have HT := Lib.hid (hT.mono hb0)
  have HA := Lib.hid (hA.mono hb0)
  have HPR := Lib.hid (hP.mono hb0)
  have HB := Lib.hid hb0
  have HOK := Lib.hid ok
  have HLO := Lib.hid hl
  have HPO := Lib.hid hp
  obtain ⟨n, hn⟩ : ∃ n, ps.length = n := ⟨_, rfl⟩
  obtain ⟨m, hm⟩ : ∃ m, l.length = m := ⟨_, rfl⟩
  rw [hn] at hplen ⊢
  rw [hm] at hlen ⊢
  have HN := Lib.hid hn
  have HM := Lib.hid hm
  clear hc hT hA hP hb0 ok hl hp hn hm
  go_enter Tryd.func118, Tryd.ntmps118
  go_wp2_with fail
  go_loopw [11] (fun i wr => ∃ k : Nat, i = .int .i64 k ∧ k ≤ n ∧ (∀ j x, j < k → ps[j]? = some x → t.someB l x.1 x.2 = true) ∧ Below (w.alloc (.cells #[.pointer (some ⟨C, 0, none⟩)] 89)).heap.size (w.alloc (.cells #[.pointer (some ⟨C, 0, none⟩)] 89)) wr) (fun i _ => n - (intOf i).toNat)
  case atStart => exact ⟨0, rfl, Nat.zero_le _, fun j x hj => absurd hj (Nat.not_lt_zero _), Below.refl _ _⟩
  case round =>
    obtain ⟨k, rfl, hk, hall, hbel⟩ := hrel
    have HALL := Lib.hid hall
    have HL := Lib.hid hbel
    obtain ⟨bc3, bf3⟩ := bcell hbel
    have hz3 := hbel.size
    simp only [World.size_alloc] at hz3
    have hy3 : w.heap.size < wr.heap.size := hz3
    clear hbel hall
    by_cases hlt : k < n
    · obtain ⟨x, hx⟩ : ∃ x, ps[k]? = some x := ⟨_, List.getElem?_eq_getElem (by rw [HN.out]; exact hlt)⟩
      obtain ⟨i, j, rfl, hi, hj⟩ := HPO.out x (List.mem_of_getElem? hx)
      obtain ⟨b, o, rfl, hbs, c0, c1⟩ := SliceE.pr (HPR.out.mono HL.out) hx
      have HX := Lib.hid hx
      have k1 : (k : Int) < (n : Int) := by omega
      have hb4 := bAlloc (Below.refl wr.heap.size wr) (.cells #[.int .i64 i, .int .i64 j] 142)
      obtain ⟨r, hr⟩ : ∃ r, t.someB l (i : Int) (j : Int) = r := ⟨_, rfl⟩
      have hca : (wr.alloc (.cells #[.int .i64 i, .int .i64 j] 142)).cell? ⟨w.heap.size, 0, none⟩ = some (.pointer (some ⟨C, 0, none⟩)) := (hb4.cell (p := ⟨w.heap.size, 0, none⟩) hy3).trans ((HL.out.cell (p := ⟨w.heap.size, 0, none⟩) (by simp)).trans (by simp [go_sem]))
      have HNT := Lib.hid (none_test A m c 134 #[.pointer (some ⟨w.heap.size, 0, none⟩), .pointer (some ⟨wr.heap.size, 0, none⟩)] (fun i => ⟨((tget l i).1 : Int), ((tget l i).2 : Int)⟩) (fun g => t.apart (tget l g) i j) (wr.alloc (.cells #[.int .i64 i, .int .i64 j] 142)) (by omega) (HM.out ▸ ((testsAt_row HA.out).mono HL.out).mono hb4) (enters_of Tryd.func134 (by kernel_rfl)) (fun g hg w' hb' => by
        have hm := HLO.out _ (tget_mem (l := l) (i := g) (by rw [HM.out]; exact hg))
        have hz := hb'.size
        simp only [World.size_alloc] at hz
        exact told1_any Aw Af cw cf C mp s w.heap.size wr.heap.size t (tget l g).1 (tget l g).2 i j w' (((HCT.out.mono HL.out).mono hb4).mono hb') HOK.out hm.1 hm.2 hi hj (((HT.out.mono HL.out).mono hb4).mono hb') (by omega) ((hb'.cell (p := ⟨w.heap.size, 0, none⟩) (by simp; omega)).trans hca) (by omega) ((hb'.cell (p := ⟨wr.heap.size, 0, none⟩) (by simp)).trans (by simp [go_sem])) ((hb'.cell (p := ⟨wr.heap.size, 1, none⟩) (by simp)).trans (by simp [go_sem]))))
      rw [show anyB (fun g => t.apart (tget l g) i j) m = r by rw [← HM.out, any_tget l (fun x => t.apart x i j)]; exact hr] at HNT
      have HR := Lib.hid hr
      clear hr hx hca hi hj
      cases r
      · go_wp2_with fail
        refine HNT.out.mono ?_
        rintro e w5 ⟨rfl, hb5⟩
        have HB5 := Lib.hid (bTrans HL.out (bTrans hb4 hb5))
        have HZ := Lib.hid (told_step HX.out HR.out)
        clear hb5 hb4 c0 c1
        go_wp2_with fail
        go_ret
        exact ⟨by rw [HZ.out]; rfl, bTrans HB.out HB5.out⟩
      · go_wp2_with fail
        refine HNT.out.mono ?_
        rintro e w5 ⟨rfl, hb5⟩
        have HB5 := Lib.hid (bTrans HL.out (bTrans hb4 hb5))
        have HA2 := Lib.hid (show ∀ g x, g < k + 1 → ps[g]? = some x → t.someB l x.1 x.2 = true from fun g x hg hx => by
          rcases Nat.lt_or_ge g k with h1 | h1
          · exact HALL.out g x h1 hx
          · obtain rfl : g = k := by omega
            rw [HX.out] at hx
            injection hx with hx
            rw [← hx]
            exact HR.out)
        clear hb5 hb4 c0 c1
        go_wp2_with fail
        go_roundw
        case rel =>
          first
          | exact ⟨k + 1, by go_num, by omega, HA2.out, HB5.out⟩
          | ((repeat apply Exists.intro)
             refine ⟨⟨k + 1, ?_, by omega, HA2.out, HB5.out⟩, rfl⟩
             go_num)
        case measure => simp [intOf]; omega
    · obtain rfl : n = k := by omega
      have HZ := Lib.hid (told_all (t := t) (l := l) (ps := ps) fun g x hx => HALL.out g x (by
        rcases Nat.lt_or_ge g n with h1 | h1
        · exact h1
        · rw [List.getElem?_eq_none (by rw [HN.out]; exact h1)] at hx; cases hx) hx)
      go_wp2_with fail
      go_ret
      exact ⟨by rw [HZ.out]; rfl, bTrans HB.out HL.out⟩
end Go.Proofs.YtchhodikgllgnaaDoor
/- 'append' onto a full slice, at a step of a region; the first list of tests behind others. No condition. -/
namespace Go.Proofs.YtchhodikgllgnaaDoor
open Go.RowKit Go.Sort
/-- 'append(l[:len(l):len(l)], x)': always new memory -/
theorem stir_full {α : Type} {E : Elem α} (g : E.Good) {o : Oper} {a : Act} (w : World) (s x : Operand) (hop : o.op = Op.call { callee := Callee.builtin Builtin.append, args := #[s, x], argTypes := #[E.sl, E.sl] })
    (A : Option Addr) (l : List α) (y : α) (hs : a.eval s = .slice A l.length l.length) (hA : A = none → l = []) (hr : RowAt w A (E.cells l)) (b : Nat) (hx : a.eval x = .slice (some ⟨b, 0, none⟩) 1 1) (hc : ∀ i u, (E.enc y)[i]? = some u → w.cell? ⟨b, i, none⟩ = some u) (hlen : l.length ≤ 100000) (N : Nat) (hN : N ≤ w.heap.size) :
    Oper.stirAt Tryd.prog o a w Newer (fun w' v => ShapeOf (l.length + 1) v ∧ OwnE E w' N v (l ++ [y])) := by
  obtain ⟨i0, hi, iz0, iz1, iz2⟩ := info_parts g.info
  have hby : (l.length + 1) * E.bytes ≤ 140737488355328 := by have := g.by_; exact Nat.le_trans (Nat.mul_le_mul (show l.length + 1 ≤ 100001 by omega) this) (by decide)
  have h63 : l.length + 1 ≤ maxLen := by unfold maxLen; omega
  have hnews : ∀ j u, (E.enc y)[j]? = some u → w.cell? ((⟨b, 0, none⟩ : Addr).add j) = some u := fun j u h => by
    rw [show (⟨b, 0, none⟩ : Addr).add j = ⟨b, j, none⟩ from by unfold Addr.add; split <;> simp_all]; exact hc j u h
  have hl1 : (E.enc y).length = 1 * E.size := by rw [g.len, Nat.one_mul]
  have fin : ∀ v' w', (Builtin.append_ #[E.sl, E.sl] o.type #[.slice A l.length l.length, .slice (some ⟨b, 0, none⟩) 1 1]).run Tryd.prog w = .ok v' w' → Below w.heap.size w w' → w'.ownsRow N E.ty E.size v' (l.length + 1) (E.cells l ++ E.enc y) → Oper.stirAt Tryd.prog o a w Newer (fun w' v => ShapeOf (l.length + 1) v ∧ OwnE E w' N v (l ++ [y])) := fun v' w' hrun hb hown => by
    unfold Oper.stirAt
    simp only [execOp, hop, resolve, invoke, builtin, List.map_toArray, List.map_cons, List.map_nil, hs, hx, hrun, Result.andThen, Sem.run_bind, Sem.run_pure, Oper.stirUpon]
    obtain ⟨g', cap, hg⟩ := owns_form hown (by omega)
    refine ⟨hb, ⟨g', cap, hg⟩, ?_⟩
    show w'.ownsRow N E.ty E.size v' (l ++ [y]).length (E.cells (l ++ [y]))
    rw [List.length_append, show E.cells (l ++ [y]) = E.cells l ++ E.enc y from by simp [Elem.cells]]
    exact hown
  cases A with
  | none =>
    obtain rfl := hA rfl
    obtain ⟨v', w', hr', h2, h3, _⟩ := run_append_own (P := Tryd.prog) w N E.sl o.type E.ty i0 E.z E.size E.bytes g.und hi iz0 iz1 iz2 g.zs g.pos (.slice none 0 0) 0 [] (World.ownsRow_nil _ _ _ _) ⟨b, 0, none⟩ 1 1 (E.enc y) hl1 hnews (g.one y) (by simpa using h63) (by simpa using hby) hN
    exact fin v' w' hr' (below_grown h3) (by simpa [Elem.cells] using h2)
  | some ad =>
    have holds : ∀ j u, (E.cells l)[j]? = some u → w.cell? (ad.add j) = some u := fun j u h => by
      rcases hr with hr | ⟨b', o', e, hlt, hc'⟩
      · rw [hr] at h; simp at h
      · obtain rfl : ad = ⟨b', o', none⟩ := Option.some.inj e
        rw [show (⟨b', o', none⟩ : Addr).add j = ⟨b', o' + j, none⟩ from by unfold Addr.add; split <;> simp_all]
        exact hc' j u h
    obtain ⟨v', w', hrun, hown, hg⟩ := run_append_arg_grows (P := Tryd.prog) w E.sl o.type E.ty i0 E.z E.size E.bytes g.und hi iz0 iz1 iz2 g.zs g.pos ad l.length l.length (E.cells l) (Elem.cells_len g l) holds ⟨b, 0, none⟩ 1 1 (E.enc y) hl1 hnews (by omega) h63 hby
    exact fin v' w' hrun (below_grown hg) (owns_lower hown hN)
/-- a slice of tests that one may read and go on with -/
def LstAt (w : World) (A : Option Addr) (c : Nat) (l : List Tp) : Prop :=
  (l = [] ∧ A = none ∧ c = 0) ∨ (l ≠ [] ∧ (∃ g, A = some ⟨g, 0, none⟩) ∧ RowAt w A (tstE.cells l) ∧ l.length ≤ c ∧ c ≤ 9223372036854775807)
theorem LstAt.mono {w w' : World} {A : Option Addr} {c : Nat} {l : List Tp} (h : LstAt w A c l) (hb : Below w.heap.size w w') : LstAt w' A c l :=
  h.imp id fun ⟨h1, h2, h3, h4⟩ => ⟨h1, h2, h3.mono hb, h4⟩
theorem LstAt.row {w : World} {A : Option Addr} {c : Nat} {l : List Tp} (h : LstAt w A c l) : RowAt w A (tstE.cells l) := by
  rcases h with ⟨rfl, _⟩ | ⟨_, _, h, _⟩
  · exact .inl rfl
  · exact h
theorem LstAt.cap {w : World} {A : Option Addr} {c : Nat} {l : List Tp} (h : LstAt w A c l) : l.length ≤ c ∧ c ≤ 9223372036854775807 := by
  rcases h with ⟨rfl, _, rfl⟩ | ⟨_, _, _, h⟩
  · exact ⟨Nat.le_refl _, by omega⟩
  · exact h
theorem LstAt.none {w : World} {A : Option Addr} {c : Nat} {l : List Tp} (h : LstAt w A c l) : A = none → l = [] := by
  rcases h with ⟨rfl, _⟩ | ⟨_, ⟨g, rfl⟩, _⟩
  · exact fun _ => rfl
  · intro h; cases h
theorem OwnE.lst {w : World} {base : Nat} {v : Value} {l : List Tp} (h : OwnE tstE w base v l) (h0 : l ≠ []) : ∃ g c, v = .slice (some ⟨g, 0, none⟩) l.length c ∧ LstAt w (some ⟨g, 0, none⟩) c l := by
  obtain ⟨A, c, e, hr⟩ := h.read
  have hp : 0 < l.length := List.length_pos_iff.2 h0
  rcases h.2 with ⟨rfl, h1⟩ | ⟨g, cap, cur, rfl, _, _, h3, h4, _⟩
  · omega
  · injection e with e1 _ e2
    subst e1 e2
    exact ⟨g, _, rfl, .inr ⟨h0, ⟨g, rfl⟩, hr, h3, by unfold maxLen at h4; omega⟩⟩
/-- the first list behind others -/
theorem find_step {Z : List Tp} {i : Nat} {x : Tp} {P : List Tp → Bool} {k : Nat} (h : Z[i]? = some x) : (listsL (Z.drop i) (k + 1)).find? P = match (listsL (Z.drop (i + 1)) k).find? (fun y => P (x :: y)) with
    | some y => some (x :: y)
    | none => (listsL (Z.drop (i + 1)) (k + 1)).find? P := by
  have e : Z.drop i = x :: Z.drop (i + 1) := by
    obtain ⟨hi, rfl⟩ := List.getElem?_eq_some_iff.1 h
    exact List.drop_eq_getElem_cons hi
  rw [e]
  show ((listsL (Z.drop (i + 1)) k).map (x :: ·) ++ listsL (Z.drop (i + 1)) (k + 1)).find? P = _
  rw [List.find?_append, List.find?_map]
  show (((listsL (Z.drop (i + 1)) k).find? (fun y => P (x :: y))).map (x :: ·)).or _ = _
  cases (listsL (Z.drop (i + 1)) k).find? (fun y => P (x :: y)) <;> rfl
theorem find_end {Z : List Tp} {P : List Tp → Bool} {k i : Nat} (h : Z.length ≤ i) : (listsL (Z.drop i) (k + 1)).find? P = none := by
  rw [List.drop_eq_nil_of_le h]
  rfl
end Go.Proofs.YtchhodikgllgnaaDoor
