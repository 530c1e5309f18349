/- Parts joined. -/
import Derived.Test.YtchhodikgllgnaaDoorJG
import Derived.Test.YtchhodikgllgnaaDoorJF
import Derived.Deep.LoopGhost
set_option linter.unusedSimpArgs false
set_option linter.unusedVariables false
/- Walks of the package quarrels: Total. Conditions: lengths are Go's; the listed table holds what it holds. -/
namespace Go.Proofs.YtchhodikgllgnaaDoor
open Go.RowKit Go.Sort
/-- what Total hands back -/
noncomputable def Qt.totalV (t : Qt) (n : Nat) (g : Nat → Int) (q : Int) : Int × Int := if t.knowErr (t.drawsB n g && t.wellB q) = 0 then spanOf (t.lowers g n q.toNat) t.leftL else (0, 0)
set_option maxHeartbeats 2000000 in
set_option maxRecDepth 100000 in
theorem totalQ_any (Aw Af A : Option Addr) (cw cf c n : Nat) (t : Qt) (g : Nat → Int) (q : Int) (w : World) (hn : n ≤ 9223372036854775807) (hI : IntsAt w A n g) (hs : t.Small) (hT : QAt w Aw Af t) (hB : TabAt w) :
    Calls Tryd.prog 55 #[.agg #[.int .i64 t.wells, .slice Aw t.nw cw, .slice Af t.nf cf], .slice A n c, .int .i64 q] w fun e w' => e = .returned (.tuple #[.agg #[.int .i64 (t.totalV n g q).1, .int .i64 (t.totalV n g q).2], .int .i64 (t.knowErr (t.drawsB n g && t.wellB q))]) ∧ Below w.heap.size w w' := by
  have hb0 := bAlloc (bAlloc (bAlloc (bAlloc (Below.refl w.heap.size w) (.cells #[.int .i64 t.wells, .slice Aw t.nw cw, .slice Af t.nf cf] 25)) (.cells #[.slice A n c] 40)) (.cells #[.int .i64 q] 3)) (.cells #[.int .i64 0, .int .i64 0] 47)
  have HT := Lib.hid (hT.mono hb0)
  have HI := Lib.hid (hI.mono hb0)
  have HTB := Lib.hid (hB.mono hb0)
  have HB := Lib.hid hb0
  clear hT hb0 hB hI
  obtain ⟨b1, h1⟩ : ∃ b, t.drawsB n g = b := ⟨_, rfl⟩
  obtain ⟨b2, h2⟩ : ∃ b, t.wellB q = b := ⟨_, rfl⟩
  have HC1 := Lib.hid (fun w hb => h1 ▸ areDrawsQ_any Aw Af A cw cf c n t g w hn (HI.out.mono hb) : ∀ w' : World, Below ((((w.alloc (.cells #[.int .i64 t.wells, .slice Aw t.nw cw, .slice Af t.nf cf] 25)).alloc (.cells #[.slice A n c] 40)).alloc (.cells #[.int .i64 q] 3)).alloc (.cells #[.int .i64 0, .int .i64 0] 47)).heap.size ((((w.alloc (.cells #[.int .i64 t.wells, .slice Aw t.nw cw, .slice Af t.nf cf] 25)).alloc (.cells #[.slice A n c] 40)).alloc (.cells #[.int .i64 q] 3)).alloc (.cells #[.int .i64 0, .int .i64 0] 47)) w' → Calls Tryd.prog 109 #[.agg #[.int .i64 t.wells, .slice Aw t.nw cw, .slice Af t.nf cf], .slice A n c] w' fun e w'' => e = .returned (.bool b1) ∧ Below w'.heap.size w' w'')
  have HC2 := Lib.hid (fun w => h2 ▸ isWellQ_any Aw Af cw cf t q w : ∀ w : World, Calls Tryd.prog 71 #[.agg #[.int .i64 t.wells, .slice Aw t.nw cw, .slice Af t.nf cf], .int .i64 q] w fun e w' => e = .returned (.bool b2) ∧ Below w.heap.size w w')
  obtain ⟨bb, hbb⟩ : ∃ bb, (b1 && b2) = bb := ⟨_, rfl⟩
  obtain ⟨er, her⟩ : ∃ er, t.knowErr bb = er := ⟨_, rfl⟩
  have HCO := Lib.hid (fun (w' : World) (hb : Below ((((w.alloc (.cells #[.int .i64 t.wells, .slice Aw t.nw cw, .slice Af t.nf cf] 25)).alloc (.cells #[.slice A n c] 40)).alloc (.cells #[.int .i64 q] 3)).alloc (.cells #[.int .i64 0, .int .i64 0] 47)).heap.size ((((w.alloc (.cells #[.int .i64 t.wells, .slice Aw t.nw cw, .slice Af t.nf cf] 25)).alloc (.cells #[.slice A n c] 40)).alloc (.cells #[.int .i64 q] 3)).alloc (.cells #[.int .i64 0, .int .i64 0] 47)) w') => ((openQ_any Aw Af cw cf t bb w' hs (HT.out.mono hb)).mono fun e w'' h => ⟨(her ▸ h.1).lower hb.size, h.2⟩ : Calls Tryd.prog 70 #[.agg #[.int .i64 t.wells, .slice Aw t.nw cw, .slice Af t.nf cf], .bool bb] w' fun e w'' => AskOut w'' ((((w.alloc (.cells #[.int .i64 t.wells, .slice Aw t.nw cw, .slice Af t.nf cf] 25)).alloc (.cells #[.slice A n c] 40)).alloc (.cells #[.int .i64 q] 3)).alloc (.cells #[.int .i64 0, .int .i64 0] 47)).heap.size Aw Af cw cf t er e ∧ Below w'.heap.size w' w''))
  have HE := Lib.hid (show t.knowErr (t.drawsB n g && t.wellB q) = er by rw [h1, h2, hbb, her])
  have HSV := Lib.hid (show t.totalV n g q = if er = 0 then spanOf (t.lowers g n q.toNat) t.leftL else (0, 0) by unfold Qt.totalV; rw [h1, h2, hbb, her])
  rw [HE.out, HSV.out]
  have HKE := Lib.hid her
  have HG := Lib.hid hbb
  have HW1 := Lib.hid h1
  have HW2 := Lib.hid h2
  clear h1 h2 her hbb HE HSV
  by_cases he : er = 0
  · subst he
    obtain ⟨ok, rfl, hne⟩ := knowErr_zero HKE.out
    have hg := HG.out
    simp only [Bool.and_eq_true] at hg
    obtain ⟨rfl, rfl⟩ := hg
    have hp := drawsB_iff.1 HW1.out
    have hq := inR_iff.1 ((wellB_ok ok q).symm.trans HW2.out)
    obtain ⟨j, rfl⟩ : ∃ j : Nat, q = (j : Int) := ⟨q.toNat, by omega⟩
    have HP := Lib.hid hp
    have HQ := Lib.hid (show (j : Int) < t.wells by omega)
    have HOK := Lib.hid ok
    rw [if_pos rfl, Int.toNat_natCast]
    obtain ⟨lo, hlo⟩ : ∃ lo, (spanOf (t.lowers g n j) t.leftL).1 = lo := ⟨_, rfl⟩
    obtain ⟨hi, hhi⟩ : ∃ hi, (spanOf (t.lowers g n j) t.leftL).2 = hi := ⟨_, rfl⟩
    have HLO := Lib.hid (show spanN (fun k => t.lowers g n j (intL0 t.leftL k)) t.leftL.length = (lo, hi) from Prod.ext hlo hhi)
    rw [hlo, hhi]
    clear hp hq hne ok hlo hhi
    go_enter Tryd.func55, Tryd.ntmps55
    go_wp2_with fail
    refine wp_region_call 9 (fun v w2 => AskOut w2 ((((w.alloc (.cells #[.int .i64 t.wells, .slice Aw t.nw cw, .slice Af t.nf cf] 25)).alloc (.cells #[.slice A n c] 40)).alloc (.cells #[.int .i64 (j : Int)] 3)).alloc (.cells #[.int .i64 0, .int .i64 0] 47)).heap.size Aw Af cw cf t 0 (.returned v) ∧ Below ((((w.alloc (.cells #[.int .i64 t.wells, .slice Aw t.nw cw, .slice Af t.nf cf] 25)).alloc (.cells #[.slice A n c] 40)).alloc (.cells #[.int .i64 (j : Int)] 3)).alloc (.cells #[.int .i64 0, .int .i64 0] 47)).heap.size ((((w.alloc (.cells #[.int .i64 t.wells, .slice Aw t.nw cw, .slice Af t.nf cf] 25)).alloc (.cells #[.slice A n c] 40)).alloc (.cells #[.int .i64 (j : Int)] 3)).alloc (.cells #[.int .i64 0, .int .i64 0] 47)) w2) (by kernel_rfl) (by decide +kernel) rfl ?_
    apply Exists.intro
    refine ⟨fun K hK => ?_, ?_, fun w1 hb1 K Q' hK => ?_, ?_⟩
    · skip
      repeat (first | (refine wpCalm_skip rfl ?_) | (refine wpCalm_step rfl (fun K hK => ?_); go_simp; (first | (refine hK _ ?_; clear hK K) | (apply Exists.intro; refine ⟨fun _ => ?_, hK _ ?_⟩; ((first | (go_at_call 109; with_reducible exact newer_of (HC1.out _ (below_regrown _ _ _))) | (go_at_call 71; with_reducible exact newer_of (HC2.out _)))); clear hK K))))
      refine wpCalm_nil ?_
      exact hK
    · rfl
    · go_simp
      refine (HCO.out w1 hb1).mono ?_
      rintro e w2 ⟨ho, hb2⟩
      obtain ⟨v, rfl⟩ := AskOut.ret ho
      exact hK v w2 ⟨ho, bTrans hb1 hb2⟩
    rintro v w2 ⟨ho, hb2⟩
    obtain ⟨C, mp, e1, hc, hC, hmp, hmb⟩ := ho.2 rfl
    obtain rfl := Ending.returned.inj e1
    have HCT2 := Lib.hid hc
    have HMP2 := Lib.hid hmp
    have HCB := Lib.hid hC
    have HMB := Lib.hid hmb
    have HB2 := Lib.hid hb2
    clear ho hb2 hc e1 hC hmp hmb
    apply Exists.intro
    refine ⟨fun K hK => ?_, fun w3 hb3 => ?_⟩
    · skip
      repeat (first | (refine wpCalm_skip rfl ?_) | (refine wpCalm_step rfl (fun K hK => ?_); go_simp; (first | (refine hK _ ?_; clear hK K) | (apply Exists.intro; refine ⟨fun _ => ?_, hK _ ?_⟩; (fail); clear hK K))))
      refine wpCalm_nil ?_
      exact hK
    have HCT := Lib.hid (HCT2.out.mono hb3)
    have HMP := Lib.hid ((hb3.block mp (Array.getElem?_eq_some_iff.1 HMP2.out).1).trans HMP2.out)
    have HB3 := Lib.hid (bTrans HB2.out hb3)
    clear hb3 HCT2 HMP2
    have HCC := Lib.hid (span_any Aw Af cw cf C mp _ t 110 #[.pointer (some ⟨w.heap.size + 1, 0, none⟩), .pointer (some ⟨w.heap.size + 1 + 1, 0, none⟩)] (fun k => t.lowers g n j (intL0 t.leftL k)) w3 HCT.out (mask_64 t HOK.out.nw) (bits_mask t HOK.out.nw) HOK.out.nw (HT.out.mono HB3.out) (HTB.out.mono HB3.out) (enters_of Tryd.func110 (by kernel_rfl)) (fun k i' hk hi w' hb A' c' hr => by
      have hbb := bTrans HB3.out hb
      have h1 : w'.cell? ⟨w.heap.size + 1, 0, none⟩ = some (.slice A n c) := (hbb.cell (p := ⟨w.heap.size + 1, 0, none⟩) (by simp <;> omega)).trans (by simp [go_sem])
      have h2 : w'.cell? ⟨w.heap.size + 1 + 1, 0, none⟩ = some (.int .i64 j) := (hbb.cell (p := ⟨w.heap.size + 1 + 1, 0, none⟩) (by simp)).trans (by simp [go_sem])
      have hz := hbb.size
      simp only [World.size_alloc] at hz
      have := total1Q_any A' A c' c (w.heap.size + 1) (w.heap.size + 1 + 1) n t.wells (t.world i') g j w' HOK.out.w1 (HOK.out.world i' hi) HP.out.1 HP.out.2 HQ.out hr (HI.out.mono hbb) (by omega) h1 (by omega) h2
      rw [← numAt_of hk] at this
      rw [← numAt_of hk]
      exact this))
    rw [HLO.out] at HCC
    obtain ⟨bc3, bf3⟩ := bcell HB3.out
    have hz3 := HB3.out.size
    simp only [World.size_alloc] at hz3
    clear HLO
    go_wp2_with fail
    refine HCC.out.mono ?_
    rintro e w4 ⟨rfl, hb4⟩
    have HB4 := Lib.hid (bTrans HB3.out hb4)
    obtain ⟨bc4, bf4⟩ := bcell HB4.out
    have hz4 := HB4.out.size
    simp only [World.size_alloc] at hz4
    clear hb4 bc3 bf3
    go_wp2_with fail
    refine bodyPost_ret (v := .tuple #[.agg #[.int .i64 lo, .int .i64 hi], .int .i64 0]) (by simp [results, Tryd.results55, go_sem, *]) rfl ⟨rfl, ?_⟩
    exact Below.setCell (p := ⟨w.heap.size + 1 + 1 + 1, 1, none⟩) (Below.setCell (p := ⟨w.heap.size + 1 + 1 + 1, 0, none⟩) (bTrans HB.out HB4.out) (by simp <;> omega) (.int .i64 lo)) (by simp <;> omega) (.int .i64 hi)
  · have g0 : (er != 0) = true := by simp [he]
    have HNZ := Lib.hid he
    rw [if_neg he]
    clear he
    go_enter Tryd.func55, Tryd.ntmps55
    go_wp2_with fail
    rcases two_ways b1 b2 with rfl | ⟨rfl, rfl⟩ | ⟨rfl, rfl⟩
    all_goals
      obtain rfl := HG.out
      refine wp_region_call 9 (fun v w2 => AskOut w2 ((((w.alloc (.cells #[.int .i64 t.wells, .slice Aw t.nw cw, .slice Af t.nf cf] 25)).alloc (.cells #[.slice A n c] 40)).alloc (.cells #[.int .i64 q] 3)).alloc (.cells #[.int .i64 0, .int .i64 0] 47)).heap.size Aw Af cw cf t er (.returned v) ∧ Below ((((w.alloc (.cells #[.int .i64 t.wells, .slice Aw t.nw cw, .slice Af t.nf cf] 25)).alloc (.cells #[.slice A n c] 40)).alloc (.cells #[.int .i64 q] 3)).alloc (.cells #[.int .i64 0, .int .i64 0] 47)).heap.size ((((w.alloc (.cells #[.int .i64 t.wells, .slice Aw t.nw cw, .slice Af t.nf cf] 25)).alloc (.cells #[.slice A n c] 40)).alloc (.cells #[.int .i64 q] 3)).alloc (.cells #[.int .i64 0, .int .i64 0] 47)) w2) (by kernel_rfl) (by decide +kernel) rfl ?_
      apply Exists.intro
      refine ⟨fun K hK => ?_, ?_, fun w1 hb1 K Q' hK => ?_, ?_⟩
      · skip
        repeat (first | (refine wpCalm_skip rfl ?_) | (refine wpCalm_step rfl (fun K hK => ?_); go_simp; (first | (refine hK _ ?_; clear hK K) | (apply Exists.intro; refine ⟨fun _ => ?_, hK _ ?_⟩; ((first | (go_at_call 109; with_reducible exact newer_of (HC1.out _ (below_regrown _ _ _))) | (go_at_call 71; with_reducible exact newer_of (HC2.out _)))); clear hK K))))
        refine wpCalm_nil ?_
        exact hK
      · rfl
      · go_simp
        refine (HCO.out w1 hb1).mono ?_
        rintro e w2 ⟨ho, hb2⟩
        obtain ⟨v, rfl⟩ := AskOut.ret ho
        exact hK v w2 ⟨ho, bTrans hb1 hb2⟩
      rintro v w2 ⟨ho, hb2⟩
      obtain rfl := Ending.returned.inj (ho.1 HNZ.out)
      have HB2 := Lib.hid hb2
      clear ho hb2
      apply Exists.intro
      refine ⟨fun K hK => ?_, fun w3 hb3 => ?_⟩
      · skip
        repeat (first | (refine wpCalm_skip rfl ?_) | (refine wpCalm_step rfl (fun K hK => ?_); go_simp; (first | (refine hK _ ?_; clear hK K) | (apply Exists.intro; refine ⟨fun _ => ?_, hK _ ?_⟩; (fail); clear hK K))))
        refine wpCalm_nil ?_
        exact hK
      have HB3 := Lib.hid (bTrans HB2.out hb3)
      clear hb3
      obtain ⟨bc3, bf3⟩ := bcell HB3.out
      have hz3 := HB3.out.size
      simp only [World.size_alloc] at hz3
      go_wp2_with fail
      refine bodyPost_ret (v := .tuple #[.agg #[.int .i64 0, .int .i64 0], .int .i64 er]) (by simp [results, Tryd.results55, go_sem, *]) rfl ⟨rfl, ?_⟩
      exact Below.setCell (p := ⟨w.heap.size + 1 + 1 + 1, 1, none⟩) (Below.setCell (p := ⟨w.heap.size + 1 + 1 + 1, 0, none⟩) (bTrans HB.out HB3.out) (by simp <;> omega) (.int .i64 0)) (by simp <;> omega) (.int .i64 0)
end Go.Proofs.YtchhodikgllgnaaDoor
/- The walk of Blame of the package quarrels. Conditions: lengths are Go's; the listed table holds what it holds. -/
namespace Go.Proofs.YtchhodikgllgnaaDoor
open Go.RowKit Go.Sort
/-- a well that the program blames -/
def Qt.goodP (t : Qt) (d : Nat → Int) (m q : Nat) (L : List Int) (p : Nat) : Bool := decide (p ≠ q) && L.all fun a => t.blamedP d m q p a
def Qt.blameV (t : Qt) (d : Nat → Int) (m q : Nat) (L : List Int) : Int × Int := if firstFrom (t.goodP d m q L) m 0 < m then ((firstFrom (t.goodP d m q L) m 0 : Int), 0) else (0, 3)
theorem blameV_none {t : Qt} {d : Nat → Int} {m q : Nat} {L : List Int} (h : ∀ p, p < m → t.goodP d m q L p = false) : t.blameV d m q L = (0, 3) := by
  have : firstFrom (t.goodP d m q L) m 0 = m := firstFrom_eq _ _ _ _ (Nat.zero_le _) (by omega) (fun j _ hj => h j hj) (fun hj => by omega)
  unfold Qt.blameV
  rw [this, if_neg (Nat.lt_irrefl _)]
theorem blameV_hit {t : Qt} {d : Nat → Int} {m q p : Nat} {L : List Int} (hp : p < m) (h : ∀ p', p' < p → t.goodP d m q L p' = false) (hg : t.goodP d m q L p = true) : t.blameV d m q L = ((p : Int), 0) := by
  have : firstFrom (t.goodP d m q L) m 0 = p := firstFrom_eq _ _ _ _ (Nat.zero_le _) (by omega) (fun j _ hj => h j hj) (fun _ => hg)
  unfold Qt.blameV
  rw [this, if_pos hp]
theorem blamedP_other {t : Qt} {d : Nat → Int} {m q p k : Nat} {a : Int} (hk : k < m) (h : d p * t.F a (p, q) ≤ if k ≠ q ∧ k ≠ p then d k * t.F a (k, q) else 0) : t.blamedP d m q p a = false := by
  unfold Qt.blamedP
  rw [Bool.not_eq_false', anyB_true]
  exact ⟨k, hk, decide_eq_true h⟩
set_option maxHeartbeats 4000000 in
set_option maxRecDepth 100000 in
theorem blameQ_ok (Aw Af Ad : Option Addr) (cw cf cd m : Nat) (t : Qt) (d : Nat → Int) (q : Nat) (w : World) (ok : t.Ok) (hs : t.Small) (hT : QAt w Aw Af t) (hB : TabAt w) (hI : IntsAt w Ad m d) (hm : t.wells = (m : Int)) (hdr : t.drawsB m d = true) (hq : q < m) (hkn : t.knowErr true = 0) (bw ow : Nat) (hAw : Aw = some ⟨bw, ow, none⟩) (hbw : bw < w.heap.size) (hcw : ∀ i, i < t.nw → ∃ A' c', w.cell? ⟨bw, ow + i, none⟩ = some (.slice A' (t.world i).n c') ∧ RowsAt w A' (t.world i)) :
    Calls Tryd.prog 57 #[.agg #[.int .i64 t.wells, .slice Aw t.nw cw, .slice Af t.nf cf], .slice Ad m cd, .int .i64 q] w fun e w' => e = .returned (.tuple #[.int .i64 (t.blameV d m q t.leftL).1, .int .i64 (t.blameV d m q t.leftL).2]) ∧ Below w.heap.size w w' := by
  obtain ⟨bd, od, rfl, hx1, hx2⟩ := hI.get hq
  clear hx1 hx2
  have hb0 := bAlloc (Below.refl w.heap.size w) (.cells #[.int .i64 t.wells, .slice Aw t.nw cw, .slice Af t.nf cf] 25)
  have HT := Lib.hid (hT.mono hb0)
  have HTB := Lib.hid (hB.mono hb0)
  have HID := Lib.hid (hI.mono hb0)
  have HB := Lib.hid hb0
  have HOK := Lib.hid ok
  have HM := Lib.hid hm
  have m4 : m ≤ 4 := by have := ok.w1; omega
  have hdd := (drawsB_iff.1 hdr).2
  have HDD := Lib.hid hdd
  obtain ⟨s, hsk⟩ : ∃ s, t.maskTo t.nw = s := ⟨_, rfl⟩
  have HBM := Lib.hid (show bitsL s = t.leftL by rw [← hsk]; exact bits_mask t ok.nw)
  have H64 := Lib.hid (show s < 64 by rw [← hsk]; exact mask_64 t ok.nw)
  have HSK := Lib.hid hsk
  have HC1 := Lib.hid (fun w' hb => hdr ▸ areDrawsQ_any Aw Af (some ⟨bd, od, none⟩) cw cf cd m t d w' (by omega) (HID.out.mono hb) : ∀ w' : World, Below (w.alloc (.cells #[.int .i64 t.wells, .slice Aw t.nw cw, .slice Af t.nf cf] 25)).heap.size (w.alloc (.cells #[.int .i64 t.wells, .slice Aw t.nw cw, .slice Af t.nf cf] 25)) w' → Calls Tryd.prog 109 #[.agg #[.int .i64 t.wells, .slice Aw t.nw cw, .slice Af t.nf cf], .slice (some ⟨bd, od, none⟩) m cd] w' fun e w'' => e = .returned (.bool true) ∧ Below w'.heap.size w' w'')
  have HC2 := Lib.hid (fun w => ((wellB_ok ok (q : Int)).trans (inR_iff.2 (by omega))) ▸ isWellQ_any Aw Af cw cf t q w : ∀ w : World, Calls Tryd.prog 71 #[.agg #[.int .i64 t.wells, .slice Aw t.nw cw, .slice Af t.nf cf], .int .i64 q] w fun e w' => e = .returned (.bool true) ∧ Below w.heap.size w w')
  have HCO := Lib.hid (fun (w' : World) (hb : Below (w.alloc (.cells #[.int .i64 t.wells, .slice Aw t.nw cw, .slice Af t.nf cf] 25)).heap.size (w.alloc (.cells #[.int .i64 t.wells, .slice Aw t.nw cw, .slice Af t.nf cf] 25)) w') => ((openQ_any Aw Af cw cf t true w' hs (HT.out.mono hb)).mono fun e w'' h => ⟨(hkn ▸ h.1).lower hb.size, h.2⟩ : Calls Tryd.prog 70 #[.agg #[.int .i64 t.wells, .slice Aw t.nw cw, .slice Af t.nf cf], .bool true] w' fun e w'' => AskOut w'' (w.alloc (.cells #[.int .i64 t.wells, .slice Aw t.nw cw, .slice Af t.nf cf] 25)).heap.size Aw Af cw cf t 0 e ∧ Below w'.heap.size w' w''))
  have HCW := Lib.hid hcw
  have HBW := Lib.hid hbw
  subst hAw
  clear hT hB hI ok hm hdd hsk hdr hkn hcw hbw
  obtain ⟨V, hV⟩ : ∃ V, t.blameV d m q t.leftL = V := ⟨_, rfl⟩
  have HV := Lib.hid hV
  rw [hV]
  clear hV
  go_enter Tryd.func57, Tryd.ntmps57
  go_wp2_with fail
  go_step3
  go_wp2_with fail
  refine wp_region_call 9 (fun v w2 => AskOut w2 (w.alloc (.cells #[.int .i64 t.wells, .slice (some ⟨bw, ow, none⟩) t.nw cw, .slice Af t.nf cf] 25)).heap.size (some ⟨bw, ow, none⟩) Af cw cf t 0 (.returned v) ∧ Below (w.alloc (.cells #[.int .i64 t.wells, .slice (some ⟨bw, ow, none⟩) t.nw cw, .slice Af t.nf cf] 25)).heap.size (w.alloc (.cells #[.int .i64 t.wells, .slice (some ⟨bw, ow, none⟩) t.nw cw, .slice Af t.nf cf] 25)) w2) (by kernel_rfl) (by decide +kernel) rfl ?_
  apply Exists.intro
  refine ⟨fun K hK => ?_, ?_, fun w1 hb1 K Q' hK => ?_, ?_⟩
  · skip
    repeat (first | (refine wpCalm_skip rfl ?_) | (refine wpCalm_step rfl (fun K hK => ?_); go_simp; (first | (refine hK _ ?_; clear hK K) | (apply Exists.intro; refine ⟨fun _ => ?_, hK _ ?_⟩; ((first | (go_at_call 109; with_reducible exact newer_of (HC1.out _ (below_regrown _ _ _))) | (go_at_call 71; with_reducible exact newer_of (HC2.out _)))); clear hK K))))
    refine wpCalm_nil ?_
    exact hK
  · rfl
  · go_simp
    refine (HCO.out w1 hb1).mono ?_
    rintro e w2 ⟨ho, hb2⟩
    obtain ⟨v, rfl⟩ := AskOut.ret ho
    exact hK v w2 ⟨ho, bTrans hb1 hb2⟩
  rintro v w2 ⟨ho, hb2⟩
  obtain ⟨C, mp, e9, hc, _⟩ := ho.2 rfl
  obtain rfl := Ending.returned.inj e9
  rw [HSK.out] at hc
  have HCT2 := Lib.hid hc
  have HB2 := Lib.hid hb2
  clear ho hb2 hc e9
  apply Exists.intro
  refine ⟨fun K hK => ?_, fun w3 hb3 => ?_⟩
  · skip
    repeat (first | (refine wpCalm_skip rfl ?_) | (refine wpCalm_step rfl (fun K hK => ?_); go_simp; (first | (refine hK _ ?_; clear hK K) | (apply Exists.intro; refine ⟨fun _ => ?_, hK _ ?_⟩; (fail); clear hK K))))
    refine wpCalm_nil ?_
    exact hK
  have hb33 := bTrans HB2.out hb3
  have HB3 := Lib.hid hb33
  have HCT := Lib.hid (HCT2.out.mono hb3)
  have hwm := HM.out
  obtain ⟨bc3, bf3⟩ := bcell hb33
  have hz3 := hb33.size
  simp only [World.size_alloc] at hz3
  have hy3 : w.heap.size < w3.heap.size := hz3
  rw [hwm] at bc3
  clear hb3 hb33 hwm hb0
  go_wp2_with fail
  go_step3
  go_wp2_with fail
  clear bc3 bf3
  go_loopg [34] m (fun g s34 wr => ∃ p : Nat, p + g = m ∧ s34 = .int .i64 p ∧ (∀ p', p' < p → t.goodP d m q t.leftL p' = false) ∧ Below w3.heap.size w3 wr)
  case atStart => exact ⟨0, by omega, rfl, fun p' hp' => absurd hp' (Nat.not_lt_zero _), Below.refl _ _⟩
  case round =>
    obtain ⟨p, hpg, rfl, hno, hbel⟩ := hrel
    have HNO := Lib.hid hno
    have HL := Lib.hid hbel
    obtain ⟨bc5, bf5⟩ := bcell (bTrans HB3.out hbel)
    rw [HM.out] at bc5
    have hz5 := (bTrans HB3.out hbel).size
    simp only [World.size_alloc] at hz5
    have hy5 : w.heap.size < wr.heap.size := hz5
    clear hbel hno
    cases gk with
    | zero =>
      have HVV := Lib.hid (show V = (0, 3) by rw [← HV.out]; exact blameV_none fun p' hp' => HNO.out p' (by omega))
      have g1 : ¬ ((p : Int) < (m : Int)) := by omega
      go_wp2_with fail
      go_ret2
      exact ⟨by rw [HVV.out]; rfl, bTrans HB.out (bTrans HB3.out HL.out)⟩
    | succ g =>
      have g1 : (p : Int) < (m : Int) := by omega
      by_cases hpq : p = q
      · have HNX := Lib.hid (show ∀ p', p' < p + 1 → t.goodP d m q t.leftL p' = false from fun p' hp' => by
          rcases Nat.lt_or_ge p' p with h | h
          · exact HNO.out p' h
          · obtain rfl : p' = p := by omega
            unfold Qt.goodP
            simp [hpq])
        have g2 : ((p : Int) == (q : Int)) = true := by simp [hpq]
        have g3 : (p : Int) = (q : Int) := by omega
        go_wp2_with fail
        go_roundg g
        case measure => omega
        case rel =>
          first
          | exact ⟨p + 1, by omega, by go_num, HNX.out, HL.out⟩
          | ((repeat apply Exists.intro)
             refine ⟨⟨p + 1, by omega, ?_, HNX.out, HL.out⟩, rfl⟩
             go_num)
      · have g2 : ((p : Int) == (q : Int)) = false := by simp; omega
        have HPQ := Lib.hid hpq
        have hct := HCT.out.mono HL.out
        have x0 := hct.box.lt
        have y0 := hct.box.cell 3 _ rfl
        have HLI := Lib.hid (list_any s wr H64.out (HTB.out.mono (bTrans HB3.out HL.out)))
        clear hct hpq
        go_wp2_with fail
        refine HLI.out.mono ?_
        rintro e w4 ⟨⟨v, rfl, hv⟩, hb4⟩
        rw [HBM.out] at hv
        have HVL := Lib.hid hv
        have HL4 := Lib.hid (bTrans HL.out hb4)
        obtain ⟨n, hn⟩ : ∃ n, t.leftL.length = n := ⟨_, rfl⟩
        have HN := Lib.hid hn
        have n6 : n ≤ 6 := by rw [← hn]; have := leftTo_len t t.nw; have := HOK.out.nw; unfold Qt.leftL; omega
        obtain ⟨A, c, rfl, _⟩ := hv.nums
        rw [hn]
        clear hv hb4 hn x0 y0 bc5 bf5 hz5 hy5
        go_wp2_with fail
        go_loopg [46] n (fun g2 s46 wx => ∃ j : Nat, j + g2 = n ∧ s46 = .int .i64 j ∧ (∀ j' a, j' < j → t.leftL[j']? = some a → t.blamedP d m q p a = true) ∧ Below w4.heap.size w4 wx)
        case atStart => exact ⟨0, by omega, rfl, fun j' a hj' => absurd hj' (Nat.not_lt_zero _), Below.refl _ _⟩
        case round =>
          obtain ⟨j, hjg, rfl, hbl, hbel⟩ := hrel
          have HBL := Lib.hid hbl
          have HLX := Lib.hid hbel
          have HLW := Lib.hid (bTrans HB3.out (bTrans HL4.out hbel))
          obtain ⟨bc6, bf6⟩ := bcell HLW.out
          rw [HM.out] at bc6
          have hz6 := HLW.out.size
          simp only [World.size_alloc] at hz6
          have hy6 : w.heap.size < wr.heap.size := hz6
          clear hbel hbl
          cases gk with
          | zero =>
            have HVV := Lib.hid (show V = ((p : Int), 0) by
              rw [← HV.out]
              refine blameV_hit (by omega) HNO.out ?_
              unfold Qt.goodP
              rw [decide_eq_true HPQ.out, Bool.true_and, List.all_eq_true]
              intro a ha
              obtain ⟨k, hk⟩ := List.mem_iff_getElem?.1 ha
              exact HBL.out k a (by have := (List.getElem?_eq_some_iff.1 hk).1; rw [HN.out] at this; omega) hk)
            have h1 : ¬ ((j : Int) < (n : Int)) := by omega
            go_wp2_with fail
            go_ret2
            exact ⟨by rw [HVV.out]; rfl, bTrans HB.out HLW.out⟩
          | succ g2 =>
            have h1 : (j : Int) < (n : Int) := by omega
            have hjn : j < n := by omega
            obtain ⟨A1, c1, e1, hrow⟩ := (HVL.out.mono HLX.out).nums
            simp only [Value.slice.injEq] at e1
            obtain ⟨rfl, _, rfl⟩ := e1
            obtain ⟨a, ha⟩ : ∃ a, t.leftL[j]? = some a := ⟨_, List.getElem?_eq_getElem (by rw [HN.out]; omega)⟩
            obtain ⟨i, hi, _, rfl⟩ := (leftTo_mem t t.nw).1 (List.mem_of_getElem? ha)
            obtain ⟨bs, os, hA, hbs, cs⟩ := hrow.num ha
            subst hA
            have HA := Lib.hid ha
            obtain ⟨A', c', cW, hRW⟩ := HCW.out i hi
            have cW := (((bTrans HB.out HLW.out).cell (p := ⟨bw, ow + i, none⟩) HBW.out)).trans cW
            have hbW : bw < wr.heap.size := Nat.lt_of_lt_of_le HBW.out (bTrans HB.out HLW.out).size
            have HRW := Lib.hid hRW
            obtain ⟨xn, hxn⟩ : ∃ xn, (t.world i).n = xn := ⟨_, rfl⟩
            rw [hxn] at cW
            have HXN := Lib.hid (show (xn : Int) = m by rw [← hxn, (HOK.out.world i hi).n, HM.out])
            have i1 : (i : Int) < (t.nw : Int) := by omega
            have HI2 := Lib.hid hi
            clear ha hrow hRW hi hxn
            go_wp2_with fail
            clear bc6 bf6 cs hbs cW hbW hz6 hy6
            go_loopg [58] m (fun g3 s58 wx => ∃ k : Nat, k + g3 = m ∧ s58 = .int .i64 k ∧ (∀ k', k' < k → decide (d p * t.F (i : Int) (p, q) ≤ if k' ≠ q ∧ k' ≠ p then d k' * t.F (i : Int) (k', q) else 0) = false) ∧ Below w4.heap.size w4 wx)
            case atStart => exact ⟨0, by omega, rfl, fun k' hk' => absurd hk' (Nat.not_lt_zero _), HLX.out⟩
            case round =>
              obtain ⟨k, hkg, rfl, hkl, hbel⟩ := hrel
              have HKL := Lib.hid hkl
              have HLY := Lib.hid hbel
              have HLZ := Lib.hid (bTrans HB3.out (bTrans HL4.out hbel))
              obtain ⟨bc7, bf7⟩ := bcell HLZ.out
              rw [HM.out] at bc7
              have hz7 := HLZ.out.size
              simp only [World.size_alloc] at hz7
              have hy7 : w.heap.size < wr.heap.size := hz7
              clear hbel hkl
              cases gk with
              | zero =>
                have HBX := Lib.hid (show ∀ j' a, j' < j + 1 → t.leftL[j']? = some a → t.blamedP d m q p a = true from fun j' a hj ha => by
                  rcases Nat.lt_or_ge j' j with h | h
                  · exact HBL.out j' a h ha
                  · obtain rfl : j' = j := by omega
                    obtain rfl := Option.some.inj (ha.symm.trans HA.out)
                    unfold Qt.blamedP
                    rw [Bool.not_eq_true', anyB_false]
                    exact fun k' hk' => HKL.out k' (by omega))
                have h2 : ¬ ((k : Int) < (m : Int)) := by omega
                go_wp2_with fail
                go_roundg g2
                case measure => omega
                case rel =>
                  first
                  | exact ⟨j + 1, by omega, by go_num, HBX.out, HLY.out⟩
                  | ((repeat apply Exists.intro)
                     refine ⟨⟨j + 1, by omega, ?_, HBX.out, HLY.out⟩, rfl⟩
                     go_num)
              | succ g3 =>
                have h2 : (k : Int) < (m : Int) := by omega
                have hkm : k < m := by omega
                have hpm : p < m := by omega
                have okW := HOK.out.world i HI2.out
                have hDk := HDD.out k hkm
                have hDp := HDD.out p hpm
                obtain ⟨bf, of, b2, o2, c2, k2, v2, hA2, a4, a5, a6, a7, hv2, v20, v21, hm2⟩ := okW.at (HRW.out.mono (bTrans HB.out HLZ.out)) (p := p) (q := q) (by omega) (by rw [HM.out]; omega) (by omega) (by rw [HM.out]; omega)
                subst hA2
                obtain ⟨bf', of', b3, o3, c3, k3, v3, hA3, _, a5k, a6k, a7k, hv3, v30, v31, hm3⟩ := okW.at (HRW.out.mono (bTrans HB.out HLZ.out)) (p := k) (q := q) (by omega) (by rw [HM.out]; omega) (by omega) (by rw [HM.out]; omega)
                simp only [Option.some.injEq, Addr.mk.injEq, and_true] at hA3
                obtain ⟨rfl, rfl⟩ := hA3
                obtain ⟨b9, o9, e9, a8, a9⟩ := (HID.out.mono HLZ.out).get hpm
                simp only [Option.some.injEq, Addr.mk.injEq, and_true] at e9
                obtain ⟨rfl, rfl⟩ := e9
                obtain ⟨b8, o8, e8, _, a9k⟩ := (HID.out.mono HLZ.out).get hkm
                simp only [Option.some.injEq, Addr.mk.injEq, and_true] at e8
                obtain ⟨rfl, rfl⟩ := e8
                rw [Int.toNat_natCast] at a5 a7 a5k a7k
                rw [Int.toNat_natCast, Int.toNat_natCast] at hv2 hv3
                have hP1 := mul_bd9 hDp.1 hDp.2 v20 v21
                have hP2 := mul_bd9 hDk.1 hDk.2 v30 v31
                have HF1 := Lib.hid (show t.F (i : Int) (p, q) = v2 by rw [hv2]; unfold Qt.F; rw [Int.toNat_natCast])
                have HF2 := Lib.hid (show t.F (i : Int) (k, q) = v3 by rw [hv3]; unfold Qt.F; rw [Int.toNat_natCast])
                obtain ⟨u2, hu2⟩ : ∃ u, d p = u := ⟨_, rfl⟩
                obtain ⟨u3, hu3⟩ : ∃ u, d k = u := ⟨_, rfl⟩
                rw [hu2] at a9 hP1
                rw [hu3] at a9k hP2
                have HU2 := Lib.hid hu2
                have HU3 := Lib.hid hu3
                obtain ⟨r2, hr2⟩ : ∃ r, u2 * v2 = r := ⟨_, rfl⟩
                obtain ⟨r3, hr3⟩ : ∃ r, u3 * v3 = r := ⟨_, rfl⟩
                rw [hr2] at hP1
                rw [hr3] at hP2
                have e1 : IntKind.i64.wrap (u2 * v2) = r2 := by rw [hr2]; exact IntWalk.i64_in _ (by omega)
                have e2 : IntKind.i64.wrap (u3 * v3) = r3 := by rw [hr3]; exact IntWalk.i64_in _ (by omega)
                have HR2 := Lib.hid hr2
                have HR3 := Lib.hid hr3
                have l1 : (p : Int) < (xn : Int) := by have := HXN.out; omega
                have l2 : (k : Int) < (xn : Int) := by have := HXN.out; omega
                have l3 : (q : Int) < (k2 : Int) := by rw [HM.out] at hm2; omega
                have l4 : (q : Int) < (k3 : Int) := by rw [HM.out] at hm3; omega
                have l5 : (0 : Int) ≤ (k : Int) := by omega
                have l6 : (0 : Int) ≤ (q : Int) := by omega
                have l7 : (0 : Int) ≤ (p : Int) := by omega
                obtain ⟨oth, hoth⟩ : ∃ o, (if k ≠ q ∧ k ≠ p then r3 else 0) = o := ⟨_, rfl⟩
                have HOT := Lib.hid hoth
                have HCMP := Lib.hid (show (d p * t.F (i : Int) (p, q) ≤ if k ≠ q ∧ k ≠ p then d k * t.F (i : Int) (k, q) else 0) ↔ r2 ≤ oth by rw [HF1.out, HF2.out, HU2.out, HU3.out, hr2, hr3, hoth])
                clear hDk hDp hv2 v20 v21 hm2 hv3 v30 v31 hm3 hP1 hP2 hu2 hu3 hr2 hr3 okW hoth
                have hway : (k ≠ q ∧ k ≠ p ∧ oth = r3) ∨ ((k = q ∨ k = p) ∧ oth = 0) := by
                  by_cases h1 : k ≠ q ∧ k ≠ p
                  · exact .inl ⟨h1.1, h1.2, by rw [← HOT.out, if_pos h1]⟩
                  · exact .inr ⟨by omega, by rw [← HOT.out, if_neg h1]⟩
                rcases hway with ⟨w1, w2', hoth⟩ | ⟨w1, hoth⟩
                · have n1 : ((k : Int) != (q : Int)) = true := by simp; omega
                  have n2 : ((k : Int) != (p : Int)) = true := by simp; omega
                  have HLD := Lib.hid (HLY.out.drew.drew)
                  subst hoth
                  clear w1 w2'
                  by_cases hle : r2 ≤ oth
                  · have HNX := Lib.hid (show ∀ p', p' < p + 1 → t.goodP d m q t.leftL p' = false from fun p' hp' => by
                      rcases Nat.lt_or_ge p' p with h | h
                      · exact HNO.out p' h
                      · obtain rfl : p' = p := by omega
                        unfold Qt.goodP
                        rw [Bool.and_eq_false_iff]
                        refine .inr ?_
                        rw [List.all_eq_false]
                        exact ⟨(i : Int), List.mem_of_getElem? HA.out, by rw [blamedP_other hkm (HCMP.out.2 hle)]; simp⟩)
                    go_wp2_with fail
                    go_region
                    go_wp2_with fail
                    go_region
                    go_wp2_with fail
                    go_roundg g
                    case measure => omega
                    case rel =>
                      first
                      | exact ⟨p + 1, by omega, by go_num, HNX.out, bTrans HL4.out HLD.out⟩
                      | ((repeat apply Exists.intro)
                         refine ⟨⟨p + 1, by omega, ?_, HNX.out, bTrans HL4.out HLD.out⟩, rfl⟩
                         go_num)
                  · have HKX := Lib.hid (show ∀ k', k' < k + 1 → decide (d p * t.F (i : Int) (p, q) ≤ if k' ≠ q ∧ k' ≠ p then d k' * t.F (i : Int) (k', q) else 0) = false from fun k' hk' => by
                      rcases Nat.lt_or_ge k' k with h | h
                      · exact HKL.out k' h
                      · obtain rfl : k' = k := by omega
                        exact decide_eq_false (fun h => hle (HCMP.out.1 h)))
                    go_wp2_with fail
                    go_region
                    go_wp2_with fail
                    go_region
                    go_wp2_with fail
                    go_roundg g3
                    case measure => omega
                    case rel =>
                      first
                      | exact ⟨k + 1, by omega, by go_num, HKX.out, HLD.out⟩
                      | ((repeat apply Exists.intro)
                         refine ⟨⟨k + 1, by omega, ?_, HKX.out, HLD.out⟩, rfl⟩
                         go_num)
                · have HLD := Lib.hid HLY.out.drew
                  subst hoth
                  by_cases hkq : k = q
                  · have n1 : ((k : Int) != (q : Int)) = false := by simp [hkq]
                    have n3 : (k : Int) = (q : Int) := by omega
                    clear w1 hkq
                    by_cases hle : r2 ≤ 0
                    · have HNX := Lib.hid (show ∀ p', p' < p + 1 → t.goodP d m q t.leftL p' = false from fun p' hp' => by
                        rcases Nat.lt_or_ge p' p with h | h
                        · exact HNO.out p' h
                        · obtain rfl : p' = p := by omega
                          unfold Qt.goodP
                          rw [Bool.and_eq_false_iff]
                          refine .inr ?_
                          rw [List.all_eq_false]
                          exact ⟨(i : Int), List.mem_of_getElem? HA.out, by rw [blamedP_other hkm (HCMP.out.2 hle)]; simp⟩)
                      go_wp2_with fail
                      go_region
                      go_wp2_with fail
                      go_roundg g
                      case measure => omega
                      case rel =>
                        first
                        | exact ⟨p + 1, by omega, by go_num, HNX.out, bTrans HL4.out HLD.out⟩
                        | ((repeat apply Exists.intro)
                           refine ⟨⟨p + 1, by omega, ?_, HNX.out, bTrans HL4.out HLD.out⟩, rfl⟩
                           go_num)
                    · have HKX := Lib.hid (show ∀ k', k' < k + 1 → decide (d p * t.F (i : Int) (p, q) ≤ if k' ≠ q ∧ k' ≠ p then d k' * t.F (i : Int) (k', q) else 0) = false from fun k' hk' => by
                        rcases Nat.lt_or_ge k' k with h | h
                        · exact HKL.out k' h
                        · obtain rfl : k' = k := by omega
                          exact decide_eq_false (fun h => hle (HCMP.out.1 h)))
                      go_wp2_with fail
                      go_region
                      go_wp2_with fail
                      go_roundg g3
                      case measure => omega
                      case rel =>
                        first
                        | exact ⟨k + 1, by omega, by go_num, HKX.out, HLD.out⟩
                        | ((repeat apply Exists.intro)
                           refine ⟨⟨k + 1, by omega, ?_, HKX.out, HLD.out⟩, rfl⟩
                           go_num)
                  · have n1 : ((k : Int) != (q : Int)) = true := by simp; omega
                    have n2 : ((k : Int) != (p : Int)) = false := by simp; omega
                    clear w1 hkq
                    by_cases hle : r2 ≤ 0
                    · have HNX := Lib.hid (show ∀ p', p' < p + 1 → t.goodP d m q t.leftL p' = false from fun p' hp' => by
                        rcases Nat.lt_or_ge p' p with h | h
                        · exact HNO.out p' h
                        · obtain rfl : p' = p := by omega
                          unfold Qt.goodP
                          rw [Bool.and_eq_false_iff]
                          refine .inr ?_
                          rw [List.all_eq_false]
                          exact ⟨(i : Int), List.mem_of_getElem? HA.out, by rw [blamedP_other hkm (HCMP.out.2 hle)]; simp⟩)
                      go_wp2_with fail
                      go_region
                      go_wp2_with fail
                      go_roundg g
                      case measure => omega
                      case rel =>
                        first
                        | exact ⟨p + 1, by omega, by go_num, HNX.out, bTrans HL4.out HLD.out⟩
                        | ((repeat apply Exists.intro)
                           refine ⟨⟨p + 1, by omega, ?_, HNX.out, bTrans HL4.out HLD.out⟩, rfl⟩
                           go_num)
                    · have HKX := Lib.hid (show ∀ k', k' < k + 1 → decide (d p * t.F (i : Int) (p, q) ≤ if k' ≠ q ∧ k' ≠ p then d k' * t.F (i : Int) (k', q) else 0) = false from fun k' hk' => by
                        rcases Nat.lt_or_ge k' k with h | h
                        · exact HKL.out k' h
                        · obtain rfl : k' = k := by omega
                          exact decide_eq_false (fun h => hle (HCMP.out.1 h)))
                      go_wp2_with fail
                      go_region
                      go_wp2_with fail
                      go_roundg g3
                      case measure => omega
                      case rel =>
                        first
                        | exact ⟨k + 1, by omega, by go_num, HKX.out, HLD.out⟩
                        | ((repeat apply Exists.intro)
                           refine ⟨⟨k + 1, by omega, ?_, HKX.out, HLD.out⟩, rfl⟩
                           go_num)
end Go.Proofs.YtchhodikgllgnaaDoor
/- The walk of Blame of the package quarrels, whatever it is handed. Conditions: lengths are Go's; the listed table holds what it holds. -/
namespace Go.Proofs.YtchhodikgllgnaaDoor
open Go.RowKit Go.Sort
noncomputable def Qt.blameOut (t : Qt) (n : Nat) (d : Nat → Int) (q : Int) : Int × Int := if t.knowErr (t.drawsB n d && t.wellB q) = 0 then t.blameV d n q.toNat t.leftL else (0, t.knowErr (t.drawsB n d && t.wellB q))
set_option maxHeartbeats 4000000 in
set_option maxRecDepth 100000 in
theorem blameQ_any (Aw Af Ad : Option Addr) (cw cf cd n : Nat) (t : Qt) (d : Nat → Int) (q : Int) (w : World) (hs : t.Small) (hT : QAt w Aw Af t) (hB : TabAt w) (hn : n ≤ 9223372036854775807) (hI : IntsAt w Ad n d) :
    Calls Tryd.prog 57 #[.agg #[.int .i64 t.wells, .slice Aw t.nw cw, .slice Af t.nf cf], .slice Ad n cd, .int .i64 q] w fun e w' => e = .returned (.tuple #[.int .i64 (t.blameOut n d q).1, .int .i64 (t.blameOut n d q).2]) ∧ Below w.heap.size w w' := by
  by_cases hz : t.knowErr (t.drawsB n d && t.wellB q) = 0
  · obtain ⟨ok, hg, hne⟩ := knowErr_zero hz
    have hkn := hz
    rw [hg] at hkn
    simp only [Bool.and_eq_true] at hg
    obtain ⟨h1, h2⟩ := hg
    have hq := inR_iff.1 ((wellB_ok ok q).symm.trans h2)
    have hm := (drawsB_iff.1 h1).1
    obtain ⟨i, rfl⟩ : ∃ i : Nat, q = (i : Int) := ⟨q.toNat, by omega⟩
    unfold Qt.blameOut
    rw [if_pos hz, Int.toNat_natCast]
    rcases hT.worlds with h0 | ⟨bw, ow, hAw, hbw, hcw⟩
    · exact absurd (show t.leftL = [] by unfold Qt.leftL; rw [h0]; rfl) hne
    · exact blameQ_ok Aw Af Ad cw cf cd n t d i w ok hs hT hB hI hm.symm h1 (by omega) hkn bw ow hAw hbw fun i hi => by
        obtain ⟨A', c', h3, h4, _⟩ := hcw i hi
        exact ⟨A', c', h3, h4⟩
  · have hb0 := bAlloc (Below.refl w.heap.size w) (.cells #[.int .i64 t.wells, .slice Aw t.nw cw, .slice Af t.nf cf] 25)
    have HT := Lib.hid (hT.mono hb0)
    have HID := Lib.hid (hI.mono hb0)
    have HB := Lib.hid hb0
    obtain ⟨b1, h1⟩ : ∃ b, t.drawsB n d = b := ⟨_, rfl⟩
    obtain ⟨b2, h2⟩ : ∃ b, t.wellB q = b := ⟨_, rfl⟩
    have HOUT := Lib.hid (show t.blameOut n d q = (0, t.knowErr (b1 && b2)) by unfold Qt.blameOut; rw [if_neg hz, h1, h2])
    rw [HOUT.out]
    rw [h1, h2] at hz
    have HC1 := Lib.hid (fun w' hb => h1 ▸ areDrawsQ_any Aw Af Ad cw cf cd n t d w' hn (HID.out.mono hb) : ∀ w' : World, Below (w.alloc (.cells #[.int .i64 t.wells, .slice Aw t.nw cw, .slice Af t.nf cf] 25)).heap.size (w.alloc (.cells #[.int .i64 t.wells, .slice Aw t.nw cw, .slice Af t.nf cf] 25)) w' → Calls Tryd.prog 109 #[.agg #[.int .i64 t.wells, .slice Aw t.nw cw, .slice Af t.nf cf], .slice Ad n cd] w' fun e w'' => e = .returned (.bool b1) ∧ Below w'.heap.size w' w'')
    have HC2 := Lib.hid (fun w => h2 ▸ isWellQ_any Aw Af cw cf t q w : ∀ w : World, Calls Tryd.prog 71 #[.agg #[.int .i64 t.wells, .slice Aw t.nw cw, .slice Af t.nf cf], .int .i64 q] w fun e w' => e = .returned (.bool b2) ∧ Below w.heap.size w w')
    obtain ⟨bb, hbb⟩ : ∃ bb, (b1 && b2) = bb := ⟨_, rfl⟩
    obtain ⟨er, her⟩ : ∃ er, t.knowErr bb = er := ⟨_, rfl⟩
    have HCO := Lib.hid (fun (w' : World) (hb : Below (w.alloc (.cells #[.int .i64 t.wells, .slice Aw t.nw cw, .slice Af t.nf cf] 25)).heap.size (w.alloc (.cells #[.int .i64 t.wells, .slice Aw t.nw cw, .slice Af t.nf cf] 25)) w') => ((openQ_any Aw Af cw cf t bb w' hs (HT.out.mono hb)).mono fun e w'' h => ⟨(her ▸ h.1).lower hb.size, h.2⟩ : Calls Tryd.prog 70 #[.agg #[.int .i64 t.wells, .slice Aw t.nw cw, .slice Af t.nf cf], .bool bb] w' fun e w'' => AskOut w'' (w.alloc (.cells #[.int .i64 t.wells, .slice Aw t.nw cw, .slice Af t.nf cf] 25)).heap.size Aw Af cw cf t er e ∧ Below w'.heap.size w' w''))
    rw [hbb, her] at hz ⊢
    have HNZ := Lib.hid hz
    have g0 : (er != 0) = true := by simp [hz]
    have HG := Lib.hid hbb
    clear h1 h2 hbb her hT hB hI hb0 hz HOUT
    go_enter Tryd.func57, Tryd.ntmps57
    go_wp2_with fail
    go_step3
    go_wp2_with fail
    rcases two_ways b1 b2 with rfl | ⟨rfl, rfl⟩ | ⟨rfl, rfl⟩
    all_goals
      obtain rfl := HG.out
      refine wp_region_call 9 (fun v w2 => AskOut w2 (w.alloc (.cells #[.int .i64 t.wells, .slice Aw t.nw cw, .slice Af t.nf cf] 25)).heap.size Aw Af cw cf t er (.returned v) ∧ Below (w.alloc (.cells #[.int .i64 t.wells, .slice Aw t.nw cw, .slice Af t.nf cf] 25)).heap.size (w.alloc (.cells #[.int .i64 t.wells, .slice Aw t.nw cw, .slice Af t.nf cf] 25)) w2) (by kernel_rfl) (by decide +kernel) rfl ?_
      apply Exists.intro
      refine ⟨fun K hK => ?_, ?_, fun w1 hb1 K Q' hK => ?_, ?_⟩
      · skip
        repeat (first | (refine wpCalm_skip rfl ?_) | (refine wpCalm_step rfl (fun K hK => ?_); go_simp; (first | (refine hK _ ?_; clear hK K) | (apply Exists.intro; refine ⟨fun _ => ?_, hK _ ?_⟩; ((first | (go_at_call 109; with_reducible exact newer_of (HC1.out _ (below_regrown _ _ _))) | (go_at_call 71; with_reducible exact newer_of (HC2.out _)))); clear hK K))))
        refine wpCalm_nil ?_
        exact hK
      · rfl
      · go_simp
        refine (HCO.out w1 hb1).mono ?_
        rintro e w2 ⟨ho, hb2⟩
        obtain ⟨v, rfl⟩ := AskOut.ret ho
        exact hK v w2 ⟨ho, bTrans hb1 hb2⟩
      rintro v w2 ⟨ho, hb2⟩
      obtain rfl := Ending.returned.inj (ho.1 HNZ.out)
      have HB2 := Lib.hid hb2
      clear ho hb2
      apply Exists.intro
      refine ⟨fun K hK => ?_, fun w3 hb3 => ?_⟩
      · skip
        repeat (first | (refine wpCalm_skip rfl ?_) | (refine wpCalm_step rfl (fun K hK => ?_); go_simp; (first | (refine hK _ ?_; clear hK K) | (apply Exists.intro; refine ⟨fun _ => ?_, hK _ ?_⟩; (fail); clear hK K))))
        refine wpCalm_nil ?_
        exact hK
      have HB3 := Lib.hid (bTrans HB2.out hb3)
      clear hb3
      go_wp2_with fail
      go_ret2
      exact ⟨rfl, bTrans HB.out HB3.out⟩
end Go.Proofs.YtchhodikgllgnaaDoor
/- Walks of the reference 05: Blame. Conditions: lengths are Go's. -/
namespace Go.Proofs.YtchhodikgllgnaaDoor
open Go.RowKit Go.Sort
theorem good_blamed {t : Qt} {d : Nat → Int} {m q p : Nat} {L : List Int} (hp : p < m) (hne : L ≠ []) : t.goodP d m q L p = L.all fun a => t.blamed d m q p a := by
  unfold Qt.goodP
  by_cases hpq : p = q
  · subst hpq
    obtain ⟨a, ha⟩ := List.exists_mem_of_ne_nil L hne
    have : (L.all fun a => t.blamed d m p p a) = false := by
      rw [List.all_eq_false]
      exact ⟨a, ha, by unfold Qt.blamed; simp⟩
    rw [this]
    simp
  · rw [decide_eq_true hpq, Bool.true_and]
    congr 1
    funext a
    exact blamed_prog hp hpq
theorem all_take {α : Type} {f : α → Bool} {L : List α} {j : Nat} {a : α} (h : L[j]? = some a) : (L.take (j + 1)).all f = ((L.take j).all f && f a) := by
  rw [List.take_add_one, h, List.all_append]
  simp
set_option maxHeartbeats 4000000 in
set_option maxRecDepth 100000 in
theorem blame5_any (Aw Af Ad : Option Addr) (cw cf cd n : Nat) (t : Qt) (d : Nat → Int) (q : Int) (w : World) (hs : t.Small) (hT : QAt w Aw Af t) (hn : n ≤ 9223372036854775807) (hI : IntsAt w Ad n d) :
    Calls Tryd.prog 58 #[.agg #[.int .i64 t.wells, .slice Aw t.nw cw, .slice Af t.nf cf], .slice Ad n cd, .int .i64 q] w fun e w' => e = .returned (.tuple #[.int .i64 (t.blameOut n d q).1, .int .i64 (t.blameOut n d q).2]) ∧ Below w.heap.size w w' := by
  have hb0 := bAlloc (Below.refl w.heap.size w) (.cells #[.int .i64 t.wells, .slice Aw t.nw cw, .slice Af t.nf cf] 25)
  have HT := Lib.hid (hT.mono hb0)
  have HID := Lib.hid (hI.mono hb0)
  have HB := Lib.hid hb0
  clear hT hb0 hI
  obtain ⟨b1, h1⟩ : ∃ b, t.drawsB n d = b := ⟨_, rfl⟩
  obtain ⟨b2, h2⟩ : ∃ b, t.wellB q = b := ⟨_, rfl⟩
  have HC1 := Lib.hid (fun w' hb => h1 ▸ areDraws5_any Aw Af Ad cw cf cd n t d w' hn (HID.out.mono hb) : ∀ w' : World, Below (w.alloc (.cells #[.int .i64 t.wells, .slice Aw t.nw cw, .slice Af t.nf cf] 25)).heap.size (w.alloc (.cells #[.int .i64 t.wells, .slice Aw t.nw cw, .slice Af t.nf cf] 25)) w' → Calls Tryd.prog 59 #[.agg #[.int .i64 t.wells, .slice Aw t.nw cw, .slice Af t.nf cf], .slice Ad n cd] w' fun e w'' => e = .returned (.bool b1) ∧ Below w'.heap.size w' w'')
  have HC2 := Lib.hid (fun w => h2 ▸ isWell5_any Aw Af cw cf t q w : ∀ w : World, Calls Tryd.prog 37 #[.agg #[.int .i64 t.wells, .slice Aw t.nw cw, .slice Af t.nf cf], .int .i64 q] w fun e w' => e = .returned (.bool b2) ∧ Below w.heap.size w w')
  obtain ⟨bb, hbb⟩ : ∃ bb, (b1 && b2) = bb := ⟨_, rfl⟩
  obtain ⟨er, her⟩ : ∃ er, t.knowErr bb = er := ⟨_, rfl⟩
  have HCO := Lib.hid (fun (w' : World) (hb : Below (w.alloc (.cells #[.int .i64 t.wells, .slice Aw t.nw cw, .slice Af t.nf cf] 25)).heap.size (w.alloc (.cells #[.int .i64 t.wells, .slice Aw t.nw cw, .slice Af t.nf cf] 25)) w') => ((refKnown Aw Af cw cf t bb w' hs.1 hs.2.1 (HT.out.mono hb)).mono fun e w'' h => ⟨by
      obtain ⟨v, h1, h2, h3⟩ := h.1
      rw [her] at h1 h2 h3
      exact ⟨v, h1, fun he => (h2 he).lower hb.size, h3⟩, h.2⟩ : Calls Tryd.prog 74 #[.agg #[.int .i64 t.wells, .slice Aw t.nw cw, .slice Af t.nf cf], .bool bb] w' fun e w'' => (∃ v, e = .returned (.tuple #[v, .int .i64 er]) ∧ (er = 0 → OwnL w'' (w.alloc (.cells #[.int .i64 t.wells, .slice Aw t.nw cw, .slice Af t.nf cf] 25)).heap.size v t.leftL) ∧ (er ≠ 0 → v = .slice none 0 0)) ∧ Below w'.heap.size w' w''))
  have HE := Lib.hid (show t.knowErr (t.drawsB n d && t.wellB q) = er by rw [h1, h2, hbb, her])
  obtain ⟨V, hV⟩ : ∃ V, t.blameOut n d q = V := ⟨_, rfl⟩
  rw [hV]
  have HKE := Lib.hid her
  have HG := Lib.hid hbb
  have HW1 := Lib.hid h1
  have HW2 := Lib.hid h2
  clear h1 h2 her hbb
  by_cases he : er = 0
  · subst he
    obtain ⟨ok, rfl, hne⟩ := knowErr_zero HKE.out
    have hg := HG.out
    simp only [Bool.and_eq_true] at hg
    obtain ⟨rfl, rfl⟩ := hg
    have hq := inR_iff.1 ((wellB_ok ok q).symm.trans HW2.out)
    obtain ⟨j0, rfl⟩ : ∃ j0 : Nat, q = (j0 : Int) := ⟨q.toNat, by omega⟩
    have hm := (drawsB_iff.1 HW1.out).1
    have HDD := Lib.hid (drawsB_iff.1 HW1.out).2
    have HM := Lib.hid hm
    have HQ := Lib.hid (show (j0 : Int) < t.wells by omega)
    have n4 : n ≤ 4 := by have := ok.w1; omega
    have HV := Lib.hid (show t.blameV d n j0 t.leftL = V by rw [← hV]; unfold Qt.blameOut; rw [if_pos HE.out, Int.toNat_natCast])
    have HOK := Lib.hid ok
    have HNE := Lib.hid hne
    obtain ⟨nl, hnl⟩ : ∃ nl, t.leftL.length = nl := ⟨_, rfl⟩
    have n6 : nl ≤ 6 := by rw [← hnl]; have := leftTo_len t t.nw; have := ok.nw; unfold Qt.leftL; omega
    have HN := Lib.hid hnl
    clear hq hm ok hne hnl hV
    go_enter Tryd.func58, Tryd.ntmps58
    go_wp2_with fail
    refine wp_region_call 9 (fun v w2 => (∃ u, v = .tuple #[u, .int .i64 0] ∧ OwnL w2 (w.alloc (.cells #[.int .i64 t.wells, .slice Aw t.nw cw, .slice Af t.nf cf] 25)).heap.size u t.leftL) ∧ Below (w.alloc (.cells #[.int .i64 t.wells, .slice Aw t.nw cw, .slice Af t.nf cf] 25)).heap.size (w.alloc (.cells #[.int .i64 t.wells, .slice Aw t.nw cw, .slice Af t.nf cf] 25)) w2) (by kernel_rfl) (by decide +kernel) rfl ?_
    apply Exists.intro
    refine ⟨fun K hK => ?_, ?_, fun w1 hb1 K Q' hK => ?_, ?_⟩
    · skip
      repeat (first | (refine wpCalm_skip rfl ?_) | (refine wpCalm_step rfl (fun K hK => ?_); go_simp; (first | (refine hK _ ?_; clear hK K) | (apply Exists.intro; refine ⟨fun _ => ?_, hK _ ?_⟩; ((first | (go_at_call 59; with_reducible exact newer_of (HC1.out _ (below_regrown _ _ _))) | (go_at_call 37; with_reducible exact newer_of (HC2.out _)))); clear hK K))))
      refine wpCalm_nil ?_
      exact hK
    · rfl
    · go_simp
      refine (HCO.out w1 hb1).mono ?_
      rintro e w2 ⟨⟨v, rfl, ho, _⟩, hb2⟩
      exact hK _ w2 ⟨⟨v, rfl, ho (by trivial)⟩, bTrans hb1 hb2⟩
    rintro v w2 ⟨⟨u, rfl, ho⟩, hb2⟩
    have HL2 := Lib.hid ho
    have HB2 := Lib.hid hb2
    obtain ⟨A, c, rfl, _⟩ := ho.nums
    rw [HN.out]
    clear ho hb2
    apply Exists.intro
    refine ⟨fun K hK => ?_, fun w3 hb3 => ?_⟩
    · skip
      repeat (first | (refine wpCalm_skip rfl ?_) | (refine wpCalm_step rfl (fun K hK => ?_); go_simp; (first | (refine hK _ ?_; clear hK K) | (apply Exists.intro; refine ⟨fun _ => ?_, hK _ ?_⟩; (fail); clear hK K))))
      refine wpCalm_nil ?_
      exact hK
    have HL3 := Lib.hid (HL2.out.mono hb3)
    have HB3 := Lib.hid (bTrans HB2.out hb3)
    clear hb3
    go_wp2_with fail
    go_loopw [10] (fun s10 wr => ∃ p : Nat, p ≤ n ∧ s10 = .int .i64 p ∧ (∀ p', p' < p → t.goodP d n j0 t.leftL p' = false) ∧ Below w3.heap.size w3 wr) (fun s10 _ => n - (intOf s10).toNat)
    case atStart => exact ⟨0, Nat.zero_le _, rfl, fun p' hp' => absurd hp' (Nat.not_lt_zero _), Below.refl _ _⟩
    case round =>
      obtain ⟨p, hp, rfl, hno, hbel⟩ := hrel
      have HNO := Lib.hid hno
      have HL := Lib.hid hbel
      have HLB := Lib.hid (bTrans HB3.out hbel)
      obtain ⟨bc3, bf3⟩ := bcell (bTrans HB3.out hbel)
      rw [← HM.out] at bc3
      have hz3 := (bTrans HB3.out hbel).size
      simp only [World.size_alloc] at hz3
      have hy3 : w.heap.size < wr.heap.size := by omega
      clear hbel hno
      by_cases hlt : p < n
      · have p1 : (p : Int) < (n : Int) := by omega
        go_wp2_with fail
        clear bc3 bf3
        go_loopw [11, 12] (fun s11 s12 wx => ∃ j : Nat, j ≤ nl ∧ s12 = .int .i64 j ∧ s11 = .bool ((t.leftL.take j).all fun a => t.blamed d n j0 p a) ∧ Below w3.heap.size w3 wx) (fun _ s12 _ => nl - (intOf s12).toNat)
        case atStart => exact ⟨0, Nat.zero_le _, rfl, rfl, HL.out⟩
        case round =>
          obtain ⟨j, hj, rfl, rfl, hbel⟩ := hrel
          have HX := Lib.hid hbel
          have HXB := Lib.hid (bTrans HB3.out hbel)
          obtain ⟨bc4, bf4⟩ := bcell (bTrans HB3.out hbel)
          have hz4 := (bTrans HB3.out hbel).size
          simp only [World.size_alloc] at hz4
          have hy4 : w.heap.size < wr.heap.size := by omega
          clear hbel
          obtain ⟨ba, hba⟩ : ∃ ba, ((t.leftL.take j).all fun a => t.blamed d n j0 p a) = ba := ⟨_, rfl⟩
          rw [hba]
          have HBA := Lib.hid hba
          clear hba
          by_cases hlj : j < nl
          · obtain ⟨A1, c1, e1, hrow⟩ := (HL3.out.mono HX.out).nums
            simp only [Value.slice.injEq] at e1
            obtain ⟨rfl, _, rfl⟩ := e1
            obtain ⟨a, ha⟩ : ∃ a, t.leftL[j]? = some a := ⟨_, List.getElem?_eq_getElem (by rw [HN.out]; omega)⟩
            obtain ⟨x, hx, _, rfl⟩ := (leftTo_mem t t.nw).1 (List.mem_of_getElem? ha)
            obtain ⟨bs, os, hA, hbs, cs⟩ := hrow.num ha
            subst hA
            obtain ⟨bl, hbl⟩ : ∃ bl, t.blamed d n j0 p (x : Int) = bl := ⟨_, rfl⟩
            have HST := Lib.hid (show ((t.leftL.take (j + 1)).all fun a => t.blamed d n j0 p a) = (ba && bl) by rw [all_take ha, HBA.out, hbl])
            have HF := Lib.hid (fun (w' : World) (hb : Below wr.heap.size wr w') => (hbl ▸ isBlamed5_any Aw Af Ad cw cf cd n t d x p j0 w' HOK.out ((HT.out.mono HXB.out).mono hb) ((HID.out.mono HXB.out).mono hb) HM.out HDD.out hlt HQ.out hx : Calls Tryd.prog 68 #[.agg #[.int .i64 t.wells, .slice Aw t.nw cw, .slice Af t.nf cf], .int .i64 x, .slice Ad n cd, .int .i64 p, .int .i64 j0] w' fun e w'' => e = .returned (.bool bl) ∧ Below w'.heap.size w' w''))
            have k1 : (j : Int) < (nl : Int) := by omega
            have k0 : (0 : Int) ≤ (j : Int) := by omega
            clear hrow ha hx hbl
            cases ba
            all_goals
              go_wp2_with fail
              refine wp_region_quiet_below (by kernel_rfl) (by kernel_rfl) ?_
              repeat (go_big_quiet_step (((go_at_call 68; with_reducible exact Calls.regrown_of (HF.out _ (below_regrown _ _ _))))))
              refine wpQuiet_nil ?_
              intro w9 hw9
              have HL9 := Lib.hid (bTrans HX.out (below_of_regrown hw9))
              clear hw9
              go_wp2_with fail
              go_roundw
              case rel =>
                first
                | exact ⟨j + 1, by omega, by go_num, by rw [HST.out]; simp, HL9.out⟩
                | ((repeat apply Exists.intro)
                   refine ⟨⟨j + 1, by omega, ?_, by rw [HST.out]; simp, HL9.out⟩, rfl⟩
                   go_num)
              case measure => simp [intOf]; omega
          · obtain rfl : j = nl := by omega
            have HGP := Lib.hid (show t.goodP d n j0 t.leftL p = ba by rw [good_blamed hlt HNE.out, ← HBA.out, List.take_of_length_le (by rw [HN.out]; exact Nat.le_refl _)])
            cases ba
            · have HNX := Lib.hid (show ∀ p', p' < p + 1 → t.goodP d n j0 t.leftL p' = false from fun p' hp' => by
                rcases Nat.lt_or_ge p' p with h | h
                · exact HNO.out p' h
                · obtain rfl : p' = p := by omega
                  exact HGP.out)
              go_wp2_with fail
              go_roundw
              case rel =>
                first
                | exact ⟨p + 1, by omega, by go_num, HNX.out, HX.out⟩
                | ((repeat apply Exists.intro)
                   refine ⟨⟨p + 1, by omega, ?_, HNX.out, HX.out⟩, rfl⟩
                   go_num)
              case measure => simp [intOf]; omega
            · have HVV := Lib.hid (show V = ((p : Int), 0) by rw [← HV.out]; exact blameV_hit hlt HNO.out HGP.out)
              go_wp2_with fail
              go_ret2
              exact ⟨by rw [HVV.out]; rfl, bTrans HB.out HXB.out⟩
      · obtain rfl : p = n := by omega
        have HVV := Lib.hid (show V = (0, 3) by rw [← HV.out]; exact blameV_none HNO.out)
        go_wp2_with fail
        go_ret2
        exact ⟨by rw [HVV.out]; rfl, bTrans HB.out HLB.out⟩
  · have g0 : (er != 0) = true := by simp [he]
    have HVV := Lib.hid (show V = (0, er) by rw [← hV]; unfold Qt.blameOut; rw [HE.out, if_neg he])
    have HNZ := Lib.hid he
    clear he hV
    go_enter Tryd.func58, Tryd.ntmps58
    go_wp2_with fail
    rcases two_ways b1 b2 with rfl | ⟨rfl, rfl⟩ | ⟨rfl, rfl⟩
    all_goals
      obtain rfl := HG.out
      refine wp_region_call 9 (fun v w2 => v = .tuple #[.slice none 0 0, .int .i64 er] ∧ Below (w.alloc (.cells #[.int .i64 t.wells, .slice Aw t.nw cw, .slice Af t.nf cf] 25)).heap.size (w.alloc (.cells #[.int .i64 t.wells, .slice Aw t.nw cw, .slice Af t.nf cf] 25)) w2) (by kernel_rfl) (by decide +kernel) rfl ?_
      apply Exists.intro
      refine ⟨fun K hK => ?_, ?_, fun w1 hb1 K Q' hK => ?_, ?_⟩
      · skip
        repeat (first | (refine wpCalm_skip rfl ?_) | (refine wpCalm_step rfl (fun K hK => ?_); go_simp; (first | (refine hK _ ?_; clear hK K) | (apply Exists.intro; refine ⟨fun _ => ?_, hK _ ?_⟩; ((first | (go_at_call 59; with_reducible exact newer_of (HC1.out _ (below_regrown _ _ _))) | (go_at_call 37; with_reducible exact newer_of (HC2.out _)))); clear hK K))))
        refine wpCalm_nil ?_
        exact hK
      · rfl
      · go_simp
        refine (HCO.out w1 hb1).mono ?_
        rintro e w2 ⟨⟨v, rfl, _, ho⟩, hb2⟩
        exact hK _ w2 ⟨by rw [ho HNZ.out], bTrans hb1 hb2⟩
      rintro v w2 ⟨rfl, hb2⟩
      have HB2 := Lib.hid hb2
      clear hb2
      apply Exists.intro
      refine ⟨fun K hK => ?_, fun w3 hb3 => ?_⟩
      · skip
        repeat (first | (refine wpCalm_skip rfl ?_) | (refine wpCalm_step rfl (fun K hK => ?_); go_simp; (first | (refine hK _ ?_; clear hK K) | (apply Exists.intro; refine ⟨fun _ => ?_, hK _ ?_⟩; (fail); clear hK K))))
        refine wpCalm_nil ?_
        exact hK
      have HB3 := Lib.hid (bTrans HB2.out hb3)
      clear hb3
      go_wp2_with fail
      go_ret2
      exact ⟨by rw [HVV.out]; rfl, bTrans HB.out HB3.out⟩
end Go.Proofs.YtchhodikgllgnaaDoor
/- Walks of math/bits.OnesCount of small numbers; of the package quarrels: many, shows. Conditions: a number below 64; of shows: a valid town. -/
namespace Go.Proofs.YtchhodikgllgnaaDoor
open Go.RowKit Go.Sort
/-- how the bits are counted -/
def onesE (s : Nat) : Int :=
  let a := IntKind.u64.wrap (bits BinOp.and IntKind.u64 ((s : Int) / 2) 6148914691236517205 + bits BinOp.and IntKind.u64 (s : Int) 6148914691236517205)
  let b := IntKind.u64.wrap (bits BinOp.and IntKind.u64 (a / 4) 3689348814741910323 + bits BinOp.and IntKind.u64 a 3689348814741910323)
  let c := bits BinOp.and IntKind.u64 (IntKind.u64.wrap (b / 16 + b)) 1085102592571150095
  let d := IntKind.u64.wrap (c + c / 256)
  let e := IntKind.u64.wrap (d + d / 65536)
  let f := IntKind.u64.wrap (e + e / 4294967296)
  bits BinOp.and IntKind.i64 (wrap64 f) 127
theorem ones_fact : ∀ s : Nat, s < 64 → onesE s = ((bitsL s).length : Int) := by decide +kernel
theorem ones64_any (s : Nat) (w : World) (h1 : s < 64) :
    Calls Tryd.prog 132 #[.int .u64 s] w fun e w' => e = .returned (.int .i64 ((bitsL s).length : Int)) ∧ w = w' := by
  obtain ⟨a, ha⟩ : ∃ a, IntKind.u64.wrap (bits BinOp.and IntKind.u64 ((s : Int) / 2) 6148914691236517205 + bits BinOp.and IntKind.u64 (s : Int) 6148914691236517205) = a := ⟨_, rfl⟩
  obtain ⟨b, hb⟩ : ∃ b, IntKind.u64.wrap (bits BinOp.and IntKind.u64 (a / 4) 3689348814741910323 + bits BinOp.and IntKind.u64 a 3689348814741910323) = b := ⟨_, rfl⟩
  obtain ⟨c, hc⟩ : ∃ c, bits BinOp.and IntKind.u64 (IntKind.u64.wrap (b / 16 + b)) 1085102592571150095 = c := ⟨_, rfl⟩
  obtain ⟨d, hd⟩ : ∃ d, IntKind.u64.wrap (c + c / 256) = d := ⟨_, rfl⟩
  obtain ⟨f, hf⟩ : ∃ f, IntKind.u64.wrap (d + d / 65536) = f := ⟨_, rfl⟩
  obtain ⟨g, hg⟩ : ∃ g, IntKind.u64.wrap (f + f / 4294967296) = g := ⟨_, rfl⟩
  obtain ⟨r, hr⟩ : ∃ r, bits BinOp.and IntKind.i64 (wrap64 g) 127 = r := ⟨_, rfl⟩
  have HR := Lib.hid (show r = ((bitsL s).length : Int) by rw [← ones_fact s h1, ← hr, ← hg, ← hf, ← hd, ← hc, ← hb, ← ha]; rfl)
  rw [← HR.out]
  go_enter Tryd.func132, Tryd.ntmps132
  go_wp2_with fail
  go_ret
  exact ⟨rfl, rfl⟩
theorem ones_any (s : Nat) (w : World) (h1 : s < 64) :
    Calls Tryd.prog 116 #[.int .u64 s] w fun e w' => e = .returned (.int .i64 ((bitsL s).length : Int)) ∧ w = w' := by
  go_enter Tryd.func116, Tryd.ntmps116
  go_wp2_with fail
  refine (ones64_any s _ h1).mono ?_
  rintro e w' ⟨rfl, rfl⟩
  go_wp2_with fail
  go_ret
  exact ⟨rfl, rfl⟩
theorem many_any (s : Nat) (w : World) (h1 : s < 64) :
    Calls Tryd.prog 73 #[.int .u64 s] w fun e w' => e = .returned (.int .i64 ((bitsL s).length : Int)) ∧ w = w' := by
  go_enter Tryd.func73, Tryd.ntmps73
  go_wp2_with fail
  refine (ones_any s _ h1).mono ?_
  rintro e w' ⟨rfl, rfl⟩
  go_wp2_with fail
  go_ret
  exact ⟨rfl, rfl⟩
set_option maxHeartbeats 2000000 in
theorem shows_any (Aw Af : Option Addr) (cw cf C mp s : Nat) (t : Qt) (p q i : Nat) (w : World) (hc : CourtAt w C Aw Af cw cf t s mp) (ok : t.Ok) (hp : (p : Int) < t.wells) (hq : (q : Int) < t.wells) (hi : i < t.nw) (hT : QAt w Aw Af t) :
    Calls Tryd.prog 114 #[.pointer (some ⟨C, 0, none⟩), .agg #[.int .i64 p, .int .i64 q], .int .i64 i] w fun e w' => e = .returned (.int .i64 (t.F i (p, q))) ∧ Below w.heap.size w w' := by
  obtain ⟨b, o, b', o', c', b'', o'', c'', n, m, v, rfl, a2, a3, a4, a5, a6, a7, hv, v0, v1, hn, hm⟩ := ok.at hT hi (p := p) (q := q) (by omega) hp (by omega) hq
  rw [Int.toNat_natCast] at a5
  rw [Int.toNat_natCast] at a7
  have HV := Lib.hid (show t.F i (p, q) = v from hv.symm)
  have HB := Lib.hid (bAlloc (Below.refl w.heap.size w) (.cells #[.int .i64 p, .int .i64 q] 27))
  have x0 := hc.box.lt
  have y0 := hc.box.cell 1 _ rfl
  have p1 : (p : Int) < (n : Int) := by omega
  have p0 : (0 : Int) ≤ (p : Int) := by omega
  have q1 : (q : Int) < (m : Int) := by omega
  have q0 : (0 : Int) ≤ (q : Int) := by omega
  have i1 : (i : Int) < (t.nw : Int) := by omega
  have i0 : (0 : Int) ≤ (i : Int) := by omega
  clear hv hn hm hi hp hq ok hT hc
  go_enter Tryd.func114, Tryd.ntmps114
  go_wp2_with fail
  go_region
  go_wp2_with fail
  go_ret
  exact ⟨by rw [HV.out]; rfl, HB.out.drew⟩
end Go.Proofs.YtchhodikgllgnaaDoor
