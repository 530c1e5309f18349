/- Parts joined. -/
import Derived.Test.YtcdlbpmffkoejaaDoorNQD
import Derived.Test.YtcdlbpmffkoejaaDoorNQB
import Derived.Test.YtcdlbpmffkoejaaDoorNQC
set_option linter.unusedSimpArgs false
set_option linter.unusedVariables false
/- Walks of the package quarrels: Left. Conditions: lengths are Go's; the listed table holds what it holds. -/
namespace Go.Proofs.YtcdlbpmffkoejaaDoor
open Go.RowKit Go.Sort
set_option maxHeartbeats 2000000 in
set_option maxRecDepth 100000 in
theorem leftQ_any (Aw Af : Option Addr) (cw cf : Nat) (t : Qt) (w : World) (hs : t.Small) (hT : QAt w Aw Af t) (hB : TabAt w) :
    Calls Tryd.prog 16 #[.agg #[.int .i64 t.wells, .slice Aw t.nw cw, .slice Af t.nf cf]] w fun e w' => Left5Out w' w.heap.size t e ∧ Below w.heap.size w w' := by
  have hb0 := bAlloc (Below.refl w.heap.size w) (.cells #[.int .i64 t.wells, .slice Aw t.nw cw, .slice Af t.nf cf] 25)
  have HT := Lib.hid (hT.mono hb0)
  have HTB := Lib.hid (hB.mono hb0)
  have HB := Lib.hid hb0
  clear hT hb0 hB
  by_cases ok : t.Ok
  · have HE := Lib.hid (Qt.err_ok ok)
    have HAE := Lib.hid (show t.askErr true = 0 from askErr_ok ok true)
    have HOK := Lib.hid ok
    obtain ⟨s, hsk⟩ : ∃ s, t.maskTo t.nw = s := ⟨_, rfl⟩
    have HBM := Lib.hid (show bitsL s = t.leftL by rw [← hsk]; exact bits_mask t ok.nw)
    have H64 := Lib.hid (show s < 64 by rw [← hsk]; exact mask_64 t ok.nw)
    have HSK := Lib.hid hsk
    clear hsk ok
    go_enter Tryd.func16, Tryd.ntmps16
    go_wp2_with fail
    refine (askQ_any _ _ _ _ t _ _ hs HT.out).mono ?_
    rintro e w1 ⟨⟨_, hk⟩, hb1⟩
    obtain ⟨C, mp, rfl, hc, _, _⟩ := hk HAE.out
    rw [HSK.out] at hc
    have x1 := hc.box.lt
    have y1 := hc.box.cell 3 _ rfl
    have HB1 := Lib.hid hb1
    have hz1 := hb1.size
    simp only [World.size_alloc] at hz1
    clear hk hc hb1
    go_wp2_with fail
    refine (list_any s _ H64.out (HTB.out.mono HB1.out)).mono ?_
    rintro e w2 ⟨⟨v, rfl, hv⟩, hb2⟩
    rw [HBM.out] at hv
    have HV := Lib.hid (hv.lower (show w.heap.size ≤ w1.heap.size by omega))
    have HB2 := Lib.hid (bTrans HB1.out hb2)
    clear hv hb2
    go_wp2_with fail
    go_ret2
    exact ⟨⟨v, by rw [HE.out]; rfl, fun _ => HV.out, fun h => absurd HOK.out h⟩, bTrans HB.out HB2.out⟩
  · have HE := Lib.hid (Qt.err_bad ok)
    have HAE := Lib.hid (askErr_bad ok true)
    have HNO := Lib.hid ok
    clear ok
    go_enter Tryd.func16, Tryd.ntmps16
    go_wp2_with fail
    refine (askQ_any _ _ _ _ t _ _ hs HT.out).mono ?_
    rintro e w1 ⟨⟨hk, _⟩, hb1⟩
    obtain rfl := hk (by rw [HAE.out]; decide)
    rw [HAE.out]
    have HB1 := Lib.hid hb1
    clear hk hb1
    go_wp2_with fail
    go_ret2
    exact ⟨⟨_, by rw [HE.out]; rfl, fun h => absurd h HNO.out, fun _ => rfl⟩, bTrans HB.out HB1.out⟩
end Go.Proofs.YtcdlbpmffkoejaaDoor
/- The walk of span of the package quarrels, whatever function it is handed, by its contract. Conditions: a valid town; the listed table holds what it holds. -/
namespace Go.Proofs.YtcdlbpmffkoejaaDoor
open Go.RowKit Go.Sort
/-- the least and the greatest of the first k numbers -/
def spanN (g : Nat → Int) : Nat → Int × Int
  | 0 => (0, 0)
  | 1 => (g 0, g 0)
  | k + 2 => (min (spanN g (k + 1)).1 (g (k + 1)), max (spanN g (k + 1)).2 (g (k + 1)))
theorem OwnL.set {w : World} {base : Nat} {v : Value} {l : List Int} (h : OwnL w base v l) {b : Nat} (hb : b < base) (o : Nat) (u : Value) : OwnL (w.setCell ⟨b, o, none⟩ u) base v l :=
  ⟨h.1, h.2.imp id fun ⟨g, cap, cur, h1, h2, h3, h4⟩ => ⟨g, cap, cur, h1, h2, (Below.heap_setCell w ⟨b, o, none⟩ u g (by show g ≠ b; omega)).trans h3, h4⟩⟩
theorem leftL_at {t : Qt} {k : Nat} {x : Int} (h : t.leftL[k]? = some x) : ∃ i : Nat, x = (i : Int) ∧ i < t.nw ∧ t.leftB i = true := by
  obtain ⟨i, h1, h2, h3⟩ := (leftTo_mem t t.nw).1 (List.mem_of_getElem? h)
  exact ⟨i, h3, h1, h2⟩
set_option maxHeartbeats 4000000 in
set_option maxRecDepth 100000 in
theorem span_any (Aw Af : Option Addr) (cw cf C mp s : Nat) (t : Qt) (f : Nat) (cs : Array Value) (g : Nat → Int) (w : World) (hc : CourtAt w C Aw Af cw cf t s mp) (h64 : s < 64) (hbl : bitsL s = t.leftL) (hnw : t.nw ≤ 6) (hT : QAt w Aw Af t) (hB : TabAt w) (hcf : Enters f)
    (hf : ∀ k i : Nat, t.leftL[k]? = some (i : Int) → i < t.nw → ∀ w', Below w.heap.size w w' → ∀ (A' : Option Addr) (c' : Nat), RowsAt w' A' (t.world i) → Calls Tryd.prog f (#[.agg #[.slice A' (t.world i).n c']] ++ cs) w' fun e w'' => e = .returned (.int .i64 (g k)) ∧ Below w'.heap.size w' w'') :
    Calls Tryd.prog 26 #[.pointer (some ⟨C, 0, none⟩), .func (.func f) #[] cs] w fun e w' => e = .returned (.agg #[.int .i64 (spanN g t.leftL.length).1, .int .i64 (spanN g t.leftL.length).2]) ∧ Below w.heap.size w w' := by
  have hb2 := bAlloc (bAlloc (Below.refl w.heap.size w) (.cells #[.int .i64 0, .int .i64 0] 36)) (.cells #[.int .i64 0, .int .i64 0] 36)
  have HCT := Lib.hid hc
  have HT := Lib.hid hT
  have HTB := Lib.hid (hB.mono hb2)
  have HF := Lib.hid hf
  have x0 := hc.box.lt
  have y0 := hc.box.cell 3 _ rfl
  have HBL := Lib.hid hbl
  unfold Enters at hcf
  clear hc hT hB hf hb2 hbl
  go_enter Tryd.func26, Tryd.ntmps26
  go_wp2_with fail
  refine (list_any s _ h64 HTB.out).mono ?_
  rintro e w2 ⟨⟨v, rfl, hv⟩, hb2⟩
  rw [HBL.out] at hv
  obtain ⟨A, c, rfl, hrow⟩ := hv.nums
  have HV := Lib.hid (hv.lower (show w.heap.size + 2 ≤ _ by simp))
  have hbA := bTrans (bAlloc (Below.refl (w.alloc (.cells #[.int .i64 0, .int .i64 0] 36)).heap.size (w.alloc (.cells #[.int .i64 0, .int .i64 0] 36))) (.cells #[.int .i64 0, .int .i64 0] 36)) hb2
  have HBA := Lib.hid hbA
  have HX2 := Lib.hid (BoxAt.mono (BoxAt.two (w := (w.alloc (.cells #[.int .i64 0, .int .i64 0] 36)).alloc (.cells #[.int .i64 0, .int .i64 0] 36)) (a := w.heap.size + 1) (x := .int .i64 0) (y := .int .i64 0) (by simp) (by simp [go_sem]) (by simp [go_sem])) hb2)
  have HZ2 := Lib.hid (fun o => (hb2.frozen (p := ⟨w.heap.size + 1, o, none⟩) (by simp)).trans (by simp [go_sem]) : ∀ o, w2.frozen? ⟨w.heap.size + 1, o, none⟩ = false)
  obtain ⟨n, hn⟩ : ∃ n, t.leftL.length = n := ⟨_, rfl⟩
  have hn6 : n ≤ 6 := by have := leftTo_len t t.nw; unfold Qt.leftL at hn; omega
  rw [hn]
  have HN := Lib.hid hn
  clear hv hrow hb2 hbA hn y0
  go_wp2_with fail
  go_loopw [15] (fun i wr => ∃ k : Nat, i = .int .i64 k ∧ k ≤ n ∧ BoxAt wr (w.heap.size + 1) [.int .i64 (spanN g k).1, .int .i64 (spanN g k).2] ∧ (∀ o, wr.frozen? ⟨w.heap.size + 1, o, none⟩ = false) ∧ OwnL wr (w.heap.size + 2) (.slice A n c) t.leftL ∧ Below (w.heap.size + 1) (w.alloc (.cells #[.int .i64 0, .int .i64 0] 36)) wr) (fun i _ => n - (intOf i).toNat)
  case atStart => exact ⟨0, rfl, Nat.zero_le _, HX2.out, HZ2.out, HN.out ▸ HV.out, by have := HBA.out; simpa using this⟩
  case round =>
    obtain ⟨k, rfl, hk, hX, hZ, hO, hbel⟩ := hrel
    have HX := Lib.hid hX
    have HZ := Lib.hid hZ
    have HO := Lib.hid hO
    have HL := Lib.hid hbel
    have hbw : Below w.heap.size w wr := bTrans (bAlloc (Below.refl w.heap.size w) (.cells #[.int .i64 0, .int .i64 0] 36)) (by simpa using hbel)
    have HBW := Lib.hid hbw
    have hsz := hbel.size
    simp only [World.size_alloc] at hsz
    clear hX hZ hO hbel
    by_cases hlt : k < n
    · obtain ⟨x, hx⟩ : ∃ x, t.leftL[k]? = some x := ⟨_, List.getElem?_eq_getElem (by rw [HN.out]; exact hlt)⟩
      obtain ⟨i, rfl, hi, _⟩ := leftL_at hx
      obtain ⟨A1, c1, e1, hrow⟩ := HO.out.nums
      injection e1 with e1 e3 e2
      clear e3
      subst e1 e2
      obtain ⟨b, o, rfl, hbs, c0⟩ := hrow.num hx
      have hct := HCT.out.mono hbw
      have y1 := hct.box.cell 1 _ rfl
      have x1 := hct.box.lt
      rcases (HT.out.mono hbw).worlds with h0 | ⟨b2, o2, hA, hb2, hcell⟩
      · omega
      obtain ⟨A', c', d0, hr, _⟩ := hcell i hi
      obtain ⟨gk, hgk⟩ : ∃ gk, g k = gk := ⟨_, rfl⟩
      have HCC := Lib.hid (hgk ▸ HF.out k i hx hi wr hbw A' c' hr : Calls Tryd.prog f (#[.agg #[.slice A' (t.world i).n c']] ++ cs) wr fun e w'' => e = .returned (.int .i64 gk) ∧ Below wr.heap.size wr w'')
      have HGK := Lib.hid hgk
      have k1 : (k : Int) < (n : Int) := by omega
      have i1 : (i : Int) < (t.nw : Int) := by omega
      have i0 : (0 : Int) ≤ (i : Int) := by omega
      subst hA
      clear hrow hct hcell hr hgk hx hbw
      go_wp2_with fail
      refine HCC.out.mono ?_
      rintro e w4 ⟨rfl, hb4⟩
      have HX4 := Lib.hid (HX.out.mono hb4)
      have HZ4 := Lib.hid (fun o => (hb4.frozen (p := ⟨w.heap.size + 1, o, none⟩) HX.out.lt).trans (HZ.out o))
      have HO4 := Lib.hid (HO.out.mono hb4)
      have HL4 := Lib.hid (HL.out.trans (hb4.mono (by omega)))
      have u0 := HX4.out.lt
      have u1 := HX4.out.cell 0 _ rfl
      have u2 := HX4.out.cell 1 _ rfl
      have f0 := HZ4.out 0
      have f1 := HZ4.out 1
      clear hb4 c0 d0 y1 x1 hbs hb2
      rcases Nat.eq_zero_or_pos k with h0 | hpos
      · have k2 : ((k : Int) = 0) = True := by simp; omega
        have HR := Lib.hid (show spanN g (k + 1) = (gk, gk) by rw [h0, ← HGK.out, h0]; rfl)
        have g1 : ¬ gk < gk := by omega
        go_wp2_with fail
        go_roundw
        case rel =>
          have HB5 := ((HX4.out.put2 (.int .i64 gk) (.int .i64 gk)).put2 (.int .i64 gk) (.int .i64 gk))
          have hs1 : (spanN g (k + 1)).1 = gk := by rw [HR.out]
          have hs2 : (spanN g (k + 1)).2 = gk := by rw [HR.out]
          refine ⟨k + 1, ?_, by have := HN.out; omega, ?_, (frz_set (frz_set (frz_set (frz_set HZ4.out _ _) _ _) _ _) _ _), ((((HO4.out.set (b := w.heap.size + 1) (by omega) 0 (.int .i64 gk)).set (b := w.heap.size + 1) (by omega) 1 (.int .i64 gk)).set (b := w.heap.size + 1) (by omega) 0 (.int .i64 gk)).set (b := w.heap.size + 1) (by omega) 1 (.int .i64 gk)), (Below.setCell (p := ⟨w.heap.size + 1, 1, none⟩) (Below.setCell (p := ⟨w.heap.size + 1, 0, none⟩) (Below.setCell (p := ⟨w.heap.size + 1, 1, none⟩) (Below.setCell (p := ⟨w.heap.size + 1, 0, none⟩) HL4.out (by simp) (.int .i64 gk)) (by simp) (.int .i64 gk)) (by simp) (.int .i64 gk)) (by simp) (.int .i64 gk))⟩
          · go_num
          · rw [hs1, hs2]; exact HB5

        case measure => simp [intOf]; omega
      · have k2 : ((k : Int) = 0) = False := by simp; omega
        obtain ⟨m2, hm2⟩ : ∃ m2, (if gk < (spanN g k).1 then gk else (spanN g k).1) = m2 := ⟨_, rfl⟩
        obtain ⟨x2, hx2⟩ : ∃ x2, (if (spanN g k).2 < gk then gk else (spanN g k).2) = x2 := ⟨_, rfl⟩
        have HR := Lib.hid (show spanN g (k + 1) = (m2, x2) by
          obtain ⟨j, rfl⟩ : ∃ j, k = j + 1 := ⟨k - 1, by omega⟩
          rw [show spanN g (j + 1 + 1) = (min (spanN g (j + 1)).1 (g (j + 1)), max (spanN g (j + 1)).2 (g (j + 1))) from rfl, HGK.out, ← hm2, ← hx2]
          refine Prod.ext ?_ ?_
          · show min _ _ = _; split <;> omega
          · show max _ _ = _; split <;> omega)
        go_wp2_with fail
        go_roundw
        case rel =>
          have HB5 := (HX4.out.put2 (.int .i64 m2) (.int .i64 x2))
          have hs1 : (spanN g (k + 1)).1 = m2 := by rw [HR.out]
          have hs2 : (spanN g (k + 1)).2 = x2 := by rw [HR.out]
          refine ⟨k + 1, ?_, by have := HN.out; omega, ?_, (frz_set (frz_set HZ4.out _ _) _ _), ((HO4.out.set (b := w.heap.size + 1) (by omega) 0 (.int .i64 m2)).set (b := w.heap.size + 1) (by omega) 1 (.int .i64 x2)), (Below.setCell (p := ⟨w.heap.size + 1, 1, none⟩) (Below.setCell (p := ⟨w.heap.size + 1, 0, none⟩) HL4.out (by simp) (.int .i64 m2)) (by simp) (.int .i64 x2))⟩
          · go_num
          · rw [hs1, hs2]; exact HB5

        case measure => simp [intOf]; omega
    · obtain rfl : k = n := by omega
      have u1 := HX.out.cell 0 _ rfl
      have u2 := HX.out.cell 1 _ rfl
      have u0 := HX.out.lt
      have hA0 : w.heap.size < (w.alloc (.cells #[.int .i64 0, .int .i64 0] 36)).heap.size := by simp
      have v1 := fun o => (HL.out.cell (p := ⟨w.heap.size, o, none⟩) (by show w.heap.size < w.heap.size + 1; omega))
      have v2 := fun o => (HL.out.frozen (p := ⟨w.heap.size, o, none⟩) (by show w.heap.size < w.heap.size + 1; omega))
      have q0 := v1 0
      have q1 := v1 1
      have r0 := v2 0
      have r1 := v2 1
      simp [go_sem] at q0 q1 r0 r1
      go_wp2_with fail
      refine bodyPost_ret (v := .agg #[.int .i64 (spanN g t.leftL.length).1, .int .i64 (spanN g t.leftL.length).2]) (by simp [results, Tryd.results26, go_sem, HN.out, *]) rfl ⟨by rw [HN.out], ?_⟩
      exact Below.setCell (p := ⟨w.heap.size, 1, none⟩) (Below.setCell (p := ⟨w.heap.size, 0, none⟩) HBW.out (by simp) (.int .i64 (spanN g k).1)) (by simp) (.int .i64 (spanN g k).2)
end Go.Proofs.YtcdlbpmffkoejaaDoor
/- Walks of the package quarrels: the closures that read a fall (of Between, of harms), harms. Conditions: a valid town; the listed table holds what it holds. -/
namespace Go.Proofs.YtcdlbpmffkoejaaDoor
open Go.RowKit Go.Sort
set_option maxHeartbeats 2000000 in
theorem fallH_any (A : Option Addr) (c a d : Nat) (m : Int) (x : Wd) (p q : Nat) (w : World) (ok : x.Ok m) (hp : (p : Int) < m) (hq : (q : Int) < m) (hr : RowsAt w A x) (ha : a < w.heap.size) (hca : w.cell? ⟨a, 0, none⟩ = some (.int .i64 p)) (hd : d < w.heap.size) (hcd : w.cell? ⟨d, 0, none⟩ = some (.int .i64 q)) :
    Calls Tryd.prog 53 #[.agg #[.slice A x.n c], .pointer (some ⟨a, 0, none⟩), .pointer (some ⟨d, 0, none⟩)] w fun e w' => e = .returned (.int .i64 (x.fall p q)) ∧ Below w.heap.size w w' := by
  obtain ⟨b', o', b'', o'', c'', n, v, rfl, a2, a3, a4, a5, hv, v0, v1, hn⟩ := ok.at hr (p := p) (q := q) (by omega) hp (by omega) hq
  rw [Int.toNat_natCast] at a3
  rw [Int.toNat_natCast] at a5
  rw [Int.toNat_natCast, Int.toNat_natCast] at hv
  have HV := Lib.hid (show x.fall p q = v from hv.symm)
  obtain ⟨r, hr2⟩ : ∃ r, x.n = r := ⟨_, rfl⟩
  have hxn := ok.n
  rw [hr2] at hxn ⊢
  have p1 : (p : Int) < (r : Int) := by omega
  have p0 : (0 : Int) ≤ (p : Int) := by omega
  have q1 : (q : Int) < (n : Int) := by omega
  have q0 : (0 : Int) ≤ (q : Int) := by omega
  clear hv hn hxn hr2 hp hq ok hr
  go_enter Tryd.func53, Tryd.ntmps53
  go_wp2_with fail
  go_region
  go_wp2_with fail
  go_ret
  exact ⟨by rw [HV.out]; rfl, (bAlloc (Below.refl _ _) _).drew⟩
/-- the numbers of a list -/
def numAt (l : List Int) (k : Nat) : Nat := (l[k]?.getD 0).toNat
theorem numAt_of {l : List Int} {k i : Nat} (h : l[k]? = some (i : Int)) : numAt l k = i := by unfold numAt; rw [h]; simp
/-- between what a fall is, of the worlds left -/
def Qt.between (t : Qt) (p q : Nat) : Int × Int := spanN (fun k => (t.world (numAt t.leftL k)).fall p q) t.leftL.length
/-- what is known of whether a fall is greater than a law -/
def harmK (s : Int × Int) (law : Int) : Int := if law < s.1 then 1 else if s.2 ≤ law then 2 else 3
set_option maxHeartbeats 2000000 in
theorem harmsC_any (Aw Af : Option Addr) (cw cf C mp s : Nat) (t : Qt) (p q : Nat) (law : Int) (w : World) (hc : CourtAt w C Aw Af cw cf t s mp) (h64 : s < 64) (hbl : bitsL s = t.leftL) (ok : t.Ok) (hp : (p : Int) < t.wells) (hq : (q : Int) < t.wells) (hT : QAt w Aw Af t) (hB : TabAt w) :
    Calls Tryd.prog 34 #[.pointer (some ⟨C, 0, none⟩), .int .i64 p, .int .i64 q, .int .i64 law] w fun e w' => e = .returned (.int .i64 (harmK (t.between p q) law)) ∧ Below w.heap.size w w' := by
  have hb2 := bAlloc (bAlloc (Below.refl w.heap.size w) (.cells #[.int .i64 p] 3)) (.cells #[.int .i64 q] 3)
  obtain ⟨lo, hlo⟩ : ∃ lo, (t.between p q).1 = lo := ⟨_, rfl⟩
  obtain ⟨hi, hhi⟩ : ∃ hi, (t.between p q).2 = hi := ⟨_, rfl⟩
  have HCS := Lib.hid (span_any Aw Af cw cf C mp s t 53 #[.pointer (some ⟨w.heap.size, 0, none⟩), .pointer (some ⟨w.heap.size + 1, 0, none⟩)] (fun k => (t.world (numAt t.leftL k)).fall p q) _ (hc.mono hb2) h64 hbl ok.nw (hT.mono hb2) (hB.mono hb2) (enters_of Tryd.func53 (by kernel_rfl)) (fun k i hk hi w' hb A' c' hr => by
    have h1 : w'.cell? ⟨w.heap.size, 0, none⟩ = some (.int .i64 p) := (hb.cell (p := ⟨w.heap.size, 0, none⟩) (by simp; omega)).trans (by simp [go_sem])
    have h2 : w'.cell? ⟨w.heap.size + 1, 0, none⟩ = some (.int .i64 q) := (hb.cell (p := ⟨w.heap.size + 1, 0, none⟩) (by simp)).trans (by simp [go_sem])
    have hz := hb.size
    simp only [World.size_alloc] at hz
    have := fallH_any A' c' w.heap.size (w.heap.size + 1) t.wells (t.world i) p q w' (ok.world i hi) hp hq hr (by omega) h1 (by omega) h2
    rw [← numAt_of hk] at this
    rw [← numAt_of hk]
    exact this))
  have HH := Lib.hid (show harmK (t.between p q) law = harmK (lo, hi) law by rw [← hlo, ← hhi])
  have HS := Lib.hid hb2
  have e1 : spanN (fun k => (t.world (numAt t.leftL k)).fall p q) t.leftL.length = (lo, hi) := Prod.ext hlo hhi
  rw [e1] at HCS
  clear hlo hhi e1 hc hT hB hb2 hbl
  by_cases h1 : law < lo
  · have HK := Lib.hid (show harmK (lo, hi) law = 1 by unfold harmK; simp [h1])
    go_enter Tryd.func34, Tryd.ntmps34
    go_wp2_with fail
    refine HCS.out.mono ?_
    rintro e w1 ⟨rfl, hb1⟩
    have HB1 := Lib.hid (bTrans HS.out hb1)
    clear hb1
    go_wp2_with fail
    go_ret
    exact ⟨by rw [HH.out, HK.out]; rfl, bAlloc HB1.out _⟩
  · by_cases h2 : hi ≤ law
    · have HK := Lib.hid (show harmK (lo, hi) law = 2 by unfold harmK; simp [h1, h2])
      go_enter Tryd.func34, Tryd.ntmps34
      go_wp2_with fail
      refine HCS.out.mono ?_
      rintro e w1 ⟨rfl, hb1⟩
      have HB1 := Lib.hid (bTrans HS.out hb1)
      clear hb1
      go_wp2_with fail
      go_ret
      exact ⟨by rw [HH.out, HK.out]; rfl, bAlloc HB1.out _⟩
    · have HK := Lib.hid (show harmK (lo, hi) law = 3 by unfold harmK; simp [h1, h2])
      go_enter Tryd.func34, Tryd.ntmps34
      go_wp2_with fail
      refine HCS.out.mono ?_
      rintro e w1 ⟨rfl, hb1⟩
      have HB1 := Lib.hid (bTrans HS.out hb1)
      clear hb1
      go_wp2_with fail
      go_ret
      exact ⟨by rw [HH.out, HK.out]; rfl, bAlloc HB1.out _⟩
end Go.Proofs.YtcdlbpmffkoejaaDoor
/- Lists of so many of some tests, in order; the first of the shortest of which something is so. Plain Lean. No condition. -/
namespace Go.Proofs.YtcdlbpmffkoejaaDoor
/-- a test: two wells -/
abbrev Tp := Nat × Nat
/-- all tests of m wells, in order -/
def testsL (m : Nat) : List Tp := (List.range m).flatMap fun p => (List.range m).map fun q => (p, q)
theorem testsL_mem {m : Nat} {x : Tp} : x ∈ testsL m ↔ x.1 < m ∧ x.2 < m := by
  unfold testsL
  obtain ⟨a, b⟩ := x
  simp only [List.mem_flatMap, List.mem_map, List.mem_range, Prod.mk.injEq]
  constructor
  · rintro ⟨p, hp, q, hq, rfl, rfl⟩
    exact ⟨hp, hq⟩
  · rintro ⟨h1, h2⟩
    exact ⟨a, h1, b, h2, rfl, rfl⟩
theorem flat_len {m : Nat} {f : Nat → List Tp} (h : ∀ p, (f p).length = m) : ∀ k, ((List.range k).flatMap f).length = k * m
  | 0 => by simp
  | k + 1 => by rw [List.range_succ, List.flatMap_append, List.length_append, flat_len h k, Nat.succ_mul]; simp [h]
theorem testsL_len (m : Nat) : (testsL m).length = m * m := flat_len (fun p => by simp) m
/-- all lists of k of some tests, the first one first -/
def listsL : List Tp → Nat → List (List Tp)
  | _, 0 => [[]]
  | [], _ + 1 => []
  | x :: l, k + 1 => (listsL l k).map (x :: ·) ++ listsL l (k + 1)
theorem listsL_zero (l : List Tp) : listsL l 0 = [[]] := by cases l <;> rfl
theorem listsL_mem {x : List Tp} : ∀ {l : List Tp} {k : Nat}, x ∈ listsL l k ↔ List.Sublist x l ∧ x.length = k
  | l, 0 => by
    rw [listsL_zero, List.mem_singleton]
    constructor
    · rintro rfl
      exact ⟨List.nil_sublist _, rfl⟩
    · rintro ⟨_, h⟩
      exact List.eq_nil_of_length_eq_zero h
  | [], k + 1 => by
    constructor
    · intro h
      cases h
    · rintro ⟨h1, h2⟩
      rw [List.sublist_nil.1 h1] at h2
      cases h2
  | y :: l, k + 1 => by
    have i1 := fun x => @listsL_mem x l k
    have i2 := @listsL_mem x l (k + 1)
    unfold listsL
    rw [List.mem_append, List.mem_map, i2]
    constructor
    · rintro (⟨z, hz, rfl⟩ | ⟨h1, h2⟩)
      · obtain ⟨a, b⟩ := (i1 z).1 hz
        exact ⟨a.cons_cons y, by simp [b]⟩
      · exact ⟨h1.cons y, h2⟩
    · rintro ⟨h1, h2⟩
      cases h1 with
      | cons _ h => exact .inr ⟨h, h2⟩
      | cons_cons _ h => exact .inl ⟨_, (i1 _).2 ⟨h, by simpa using h2⟩, rfl⟩
theorem listsL_all : ∀ l : List Tp, listsL l l.length = [l]
  | [] => rfl
  | x :: l => by
    show (listsL l l.length).map (x :: ·) ++ listsL l (l.length + 1) = _
    have h0 : listsL l (l.length + 1) = [] := List.eq_nil_iff_forall_not_mem.2 fun y hy => by
      obtain ⟨h1, h2⟩ := listsL_mem.1 hy
      have := h1.length_le
      omega
    rw [listsL_all l, h0]
    rfl
/-- the first list of a, a + 1 .. of some tests (n rounds) of which something is so -/
def firstUpTo (l : List Tp) (p : List Tp → Bool) : Nat → Nat → Option (List Tp)
  | _, 0 => none
  | a, n + 1 => match (listsL l a).find? p with
    | some x => some x
    | none => firstUpTo l p (a + 1) n
/-- the first of the shortest lists of some tests of which something is so; all of them, if of no shorter one -/
def fewestL (l : List Tp) (p : List Tp → Bool) : List Tp := (firstUpTo l p 0 l.length).getD l
theorem firstUpTo_snoc (l : List Tp) (p : List Tp → Bool) : ∀ n a, firstUpTo l p a (n + 1) = match firstUpTo l p a n with
    | some x => some x
    | none => (listsL l (a + n)).find? p
  | 0, a => by
    simp only [firstUpTo, Nat.add_zero]
    cases (listsL l a).find? p <;> rfl
  | n + 1, a => by
    have ih := firstUpTo_snoc l p n (a + 1)
    rw [show firstUpTo l p a (n + 1 + 1) = (match (listsL l a).find? p with | some x => some x | none => firstUpTo l p (a + 1) (n + 1)) from rfl, ih,
      show firstUpTo l p a (n + 1) = (match (listsL l a).find? p with | some x => some x | none => firstUpTo l p (a + 1) n) from rfl]
    cases (listsL l a).find? p with
    | some x => rfl
    | none => simp only [show a + 1 + n = a + (n + 1) by omega]
theorem fewest_nil (l : List Tp) (p : List Tp → Bool) (h0 : p [] = true) : fewestL l p = [] := by
  cases l with
  | nil => rfl
  | cons x l =>
    unfold fewestL
    show ((match (listsL (x :: l) 0).find? p with | some x => some x | none => firstUpTo (x :: l) p (0 + 1) l.length) : Option _).getD _ = _
    simp [listsL, h0]
end Go.Proofs.YtcdlbpmffkoejaaDoor
/- What a test tells, which lists of tests tell all apart, how many tests are enough: plain Lean over towns as data. No condition but a valid town, where it is said. -/
namespace Go.Proofs.YtcdlbpmffkoejaaDoor
open Go.RowKit Go.Sort
def intL0 (L : List Int) (k : Nat) : Int := L[k]?.getD 0
theorem intL0_mem {L : List Int} {k : Nat} (h : k < L.length) : intL0 L k ∈ L := by
  unfold intL0
  rw [List.getElem?_eq_getElem h]
  exact List.getElem_mem h
theorem mem_intL0 {L : List Int} {x : Int} (h : x ∈ L) : ∃ k, k < L.length ∧ intL0 L k = x := by
  obtain ⟨k, hk, he⟩ := List.getElem_of_mem h
  exact ⟨k, hk, by unfold intL0; rw [List.getElem?_eq_getElem hk]; exact he⟩
/-- what a test shows in a world -/
def Qt.F (t : Qt) (i : Int) (x : Tp) : Int := (t.world i.toNat).fall x.1 x.2
def Qt.tests (t : Qt) : List Tp := testsL t.wells.toNat
def Qt.apart (t : Qt) (x : Tp) (a b : Int) : Bool := t.F a x != t.F b x
def Qt.someB (t : Qt) (l : List Tp) (a b : Int) : Bool := l.any fun x => t.apart x a b
theorem apart_comm (t : Qt) (x : Tp) (a b : Int) : t.apart x a b = t.apart x b a := by
  unfold Qt.apart
  by_cases h : t.F a x = t.F b x
  · simp [h]
  · rw [bne_iff_ne.2 h, bne_iff_ne.2 (Ne.symm h)]
theorem apart_self (t : Qt) (x : Tp) (a : Int) : t.apart x a a = false := by simp [Qt.apart]
theorem someB_comm (t : Qt) (l : List Tp) (a b : Int) : t.someB l a b = t.someB l b a := by
  unfold Qt.someB
  congr 1
  funext x
  exact apart_comm t x a b
theorem someB_self (t : Qt) (l : List Tp) (a : Int) : t.someB l a a = false := by simp [Qt.someB, apart_self]
theorem someB_iff {t : Qt} {l : List Tp} {a b : Int} : t.someB l a b = true ↔ ∃ x, x ∈ l ∧ t.F a x ≠ t.F b x := by simp [Qt.someB, Qt.apart]
theorem someB_sub {t : Qt} {l l' : List Tp} {a b : Int} (h : ∀ x, x ∈ l → x ∈ l') (hs : t.someB l a b = true) : t.someB l' a b = true := by
  obtain ⟨x, h1, h2⟩ := someB_iff.1 hs
  exact someB_iff.2 ⟨x, h x h1, h2⟩
/-- whether some tests tell each two of some worlds apart that are not alike -/
def Qt.allApart (t : Qt) (l : List Tp) (L : List Int) : Bool :=
  !anyB (fun i => anyB (fun k => t.someB t.tests (intL0 L i) (intL0 L k) && !t.someB l (intL0 L i) (intL0 L k)) i) L.length
theorem allApart_iff {t : Qt} {l : List Tp} {L : List Int} : t.allApart l L = true ↔ ∀ a, a ∈ L → ∀ b, b ∈ L → t.someB t.tests a b = true → t.someB l a b = true := by
  unfold Qt.allApart
  rw [Bool.not_eq_true', anyB_false]
  constructor
  · intro h a ha b hb hs
    obtain ⟨i, hi, rfl⟩ := mem_intL0 ha
    obtain ⟨k, hk, rfl⟩ := mem_intL0 hb
    rcases Nat.lt_trichotomy i k with h1 | h1 | h1
    · have := anyB_false.1 (h k hk) i h1
      rw [someB_comm t t.tests, hs, someB_comm t l] at this
      simpa using this
    · subst h1
      rw [someB_self] at hs
      cases hs
    · have := anyB_false.1 (h i hi) k h1
      rw [hs] at this
      simpa using this
  · intro h i hi
    refine anyB_false.2 fun k hk => ?_
    cases hs : t.someB t.tests (intL0 L i) (intL0 L k) with
    | false => rfl
    | true => rw [h _ (intL0_mem hi) _ (intL0_mem (by omega)) hs]; rfl
/-- the pairs of some worlds, the first one first, of which something is so -/
def pairsL (p : Int → Int → Bool) : List Int → List (Int × Int)
  | [] => []
  | a :: L => (L.filter (p a)).map (fun b => (a, b)) ++ pairsL p L
def Qt.told (t : Qt) (l : List Tp) (ps : List (Int × Int)) : Bool := ps.all fun p => t.someB l p.1 p.2
theorem told_pairs {t : Qt} {l : List Tp} {p : Int → Int → Bool} (hp : ∀ a b, p a b = p b a) (h0 : ∀ a, p a a = false) : ∀ {L : List Int}, t.told l (pairsL p L) = true ↔ ∀ a, a ∈ L → ∀ b, b ∈ L → p a b = true → t.someB l a b = true
  | [] => by simp [Qt.told, pairsL]
  | a :: L => by
    have ih := told_pairs (t := t) (l := l) hp h0 (L := L)
    unfold Qt.told at ih ⊢
    unfold pairsL
    rw [List.all_append, Bool.and_eq_true, ih]
    simp only [List.all_map, List.all_eq_true, List.mem_filter, Function.comp, List.mem_cons]
    constructor
    · rintro ⟨h1, h2⟩ x (rfl | hx) y (rfl | hy) hs
      · rw [h0] at hs; cases hs
      · exact h1 y ⟨hy, hs⟩
      · rw [someB_comm]; exact h1 x ⟨hx, by rw [hp]; exact hs⟩
      · exact h2 x hx y hy hs
    · intro h
      exact ⟨fun y hy => h a (.inl rfl) y (.inr hy.1) hy.2, fun x hx y hy hs => h x (.inr hx) y (.inr hy) hs⟩
theorem told_nil {t : Qt} {ps : List (Int × Int)} : t.told [] ps = true ↔ ps = [] := by
  cases ps with
  | nil => simp [Qt.told]
  | cons a l => simp [Qt.told, Qt.someB]
/-- the pairs of Fewest -/
theorem told_apart (t : Qt) (l : List Tp) (L : List Int) : t.told l (pairsL (fun a b => t.someB t.tests a b) L) = t.allApart l L :=
  Bool.eq_iff_iff.2 ((told_pairs (fun a b => someB_comm t _ a b) (fun a => someB_self t _ a)).trans allApart_iff.symm)
/-! ### How many tests are enough -/
/-- the worlds of some in which a test shows a fall -/
def Qt.shown (t : Qt) (x : Tp) (L : List Int) (f : Int) : List Int := L.filter fun w => t.F w x == f
def maxTo (g : Nat → Int) : Nat → Int
  | 0 => 0
  | n + 1 => max (maxTo g n) (g n)
theorem maxTo_le {g : Nat → Int} {v : Int} : ∀ {n : Nat}, maxTo g n ≤ v ↔ 0 ≤ v ∧ ∀ i, i < n → g i ≤ v
  | 0 => by simp [maxTo]
  | n + 1 => by
    have ih := maxTo_le (g := g) (v := v) (n := n)
    unfold maxTo
    constructor
    · intro h
      have h1 := ih.1 (by omega : maxTo g n ≤ v)
      refine ⟨h1.1, fun i hi => ?_⟩
      rcases Nat.lt_or_ge i n with h2 | h2
      · exact h1.2 i h2
      · obtain rfl : i = n := by omega
        omega
    · rintro ⟨h1, h2⟩
      have := ih.2 ⟨h1, fun i hi => h2 i (by omega)⟩
      have := h2 n (by omega)
      omega
theorem maxTo_congr {g h : Nat → Int} : ∀ {n : Nat}, (∀ i, i < n → g i = h i) → maxTo g n = maxTo h n
  | 0, _ => rfl
  | n + 1, e => by
    unfold maxTo
    rw [maxTo_congr fun i hi => e i (by omega), e n (by omega)]
theorem maxTo_nonneg (g : Nat → Int) : ∀ n, 0 ≤ maxTo g n
  | 0 => Int.le_refl 0
  | n + 1 => by have := maxTo_nonneg g n; unfold maxTo; omega
/-- the least of a number and of those of some tests -/
def minF (n0 : Int) (g : Tp → Int) (l : List Tp) : Int := l.foldl (fun b x => min b (g x)) n0
theorem minF_cons (n0 : Int) (g : Tp → Int) (x : Tp) (l : List Tp) : minF n0 g (x :: l) = minF (min n0 (g x)) g l := rfl
theorem minF_snoc (n0 : Int) (g : Tp → Int) (x : Tp) (l : List Tp) : minF n0 g (l ++ [x]) = min (minF n0 g l) (g x) := by simp [minF]
theorem minF_le {g : Tp → Int} {v : Int} : ∀ {l : List Tp} {n0 : Int}, minF n0 g l ≤ v ↔ n0 ≤ v ∨ ∃ x, x ∈ l ∧ g x ≤ v
  | [], n0 => by simp [minF]
  | y :: l, n0 => by
    rw [minF_cons, minF_le (l := l)]
    constructor
    · rintro (h | ⟨x, hx, h⟩)
      · by_cases h1 : n0 ≤ v
        · exact .inl h1
        · exact .inr ⟨y, by simp, by omega⟩
      · exact .inr ⟨x, by simp [hx], h⟩
    · rintro (h | ⟨x, hx, h⟩)
      · exact .inl (by omega)
      · rcases List.mem_cons.1 hx with rfl | hx
        · exact .inl (by omega)
        · exact .inr ⟨x, hx, h⟩
theorem minF_congr {g h : Tp → Int} : ∀ {l : List Tp} {n0 : Int}, (∀ x, x ∈ l → g x = h x) → minF n0 g l = minF n0 h l
  | [], _, _ => rfl
  | y :: l, n0, e => by
    rw [minF_cons, minF_cons, e y (by simp), minF_congr fun x hx => e x (by simp [hx])]
/-- how many tests are enough behind one, by how many are enough for fewer worlds -/
def Qt.behindW (t : Qt) (d : List Int → Int) (x : Tp) (L : List Int) : Int :=
  if anyB (fun f => (t.shown x L f).length == L.length) 10 then L.length else maxTo (fun f => if 1 < (t.shown x L f).length then d (t.shown x L f) else 0) 10
def Qt.depthF (t : Qt) : Nat → List Int → Int
  | 0, _ => 0
  | n + 1, L => if t.allApart [] L then 0 else minF L.length (fun x => 1 + t.behindW (t.depthF n) x L) t.tests
/-- how many tests are enough for some worlds -/
def Qt.depth (t : Qt) (L : List Int) : Int := t.depthF L.length L
/-- how many are enough behind a test -/
def Qt.behind (t : Qt) (x : Tp) (L : List Int) : Int := t.behindW t.depth x L
theorem shown_len (t : Qt) (x : Tp) (L : List Int) (f : Int) : (t.shown x L f).length ≤ L.length := List.length_filter_le _ _
theorem shown_all {t : Qt} {x : Tp} {L : List Int} {f : Int} (h : (t.shown x L f).length = L.length) : t.shown x L f = L := (List.filter_sublist (l := L)).eq_of_length h
theorem behindW_congr {t : Qt} {d d' : List Int → Int} {x : Tp} {L : List Int} (h : ∀ f : Nat, (t.shown x L f).length < L.length → d (t.shown x L f) = d' (t.shown x L f)) : t.behindW d x L = t.behindW d' x L := by
  unfold Qt.behindW
  split
  · rfl
  · rename_i hn
    have hn := anyB_false.1 (by simpa using hn)
    refine maxTo_congr fun f hf => ?_
    split
    · refine h f ?_
      have h1 := hn f hf
      have h2 := shown_len t x L (f : Int)
      simp at h1
      omega
    · rfl
theorem allApart_short {t : Qt} {l : List Tp} {L : List Int} (h : L.length < 2) : t.allApart l L = true := by
  refine allApart_iff.2 fun a ha b hb hs => ?_
  obtain ⟨i, hi, rfl⟩ := mem_intL0 ha
  obtain ⟨k, hk, rfl⟩ := mem_intL0 hb
  obtain rfl : i = k := by omega
  rw [someB_self] at hs
  cases hs
theorem depthF_fuel (t : Qt) : ∀ (n m : Nat) (L : List Int), L.length ≤ n → L.length ≤ m → t.depthF n L = t.depthF m L
  | 0, 0, _, _, _ => rfl
  | 0, m + 1, L, h, _ => by
    have : t.allApart [] L = true := allApart_short (by omega)
    simp [Qt.depthF, this]
  | n + 1, 0, L, _, h => by
    have : t.allApart [] L = true := allApart_short (by omega)
    simp [Qt.depthF, this]
  | n + 1, m + 1, L, h1, h2 => by
    unfold Qt.depthF
    split
    · rfl
    · exact minF_congr fun x _ => by rw [behindW_congr fun f hf => depthF_fuel t n m _ (by omega) (by omega)]
theorem depth_step (t : Qt) (L : List Int) : t.depth L = if t.allApart [] L then 0 else minF L.length (fun x => 1 + t.behind x L) t.tests := by
  unfold Qt.depth
  cases hL : L.length with
  | zero =>
    have : t.allApart [] L = true := allApart_short (by omega)
    simp [Qt.depthF, this]
  | succ n =>
    unfold Qt.depthF
    rw [hL]
    split
    · rfl
    · refine minF_congr fun x _ => ?_
      unfold Qt.behind
      rw [behindW_congr fun f hf => ?_]
      exact depthF_fuel t _ _ _ (by omega) (Nat.le_refl _)
theorem minF_start (n0 : Int) (g : Tp → Int) (l : List Tp) : minF n0 g l ≤ n0 := minF_le.2 (.inl (Int.le_refl _))
theorem depth_le (t : Qt) (L : List Int) : t.depth L ≤ L.length := by
  rw [depth_step]
  split
  · omega
  · exact minF_start _ _ _
/-- a test that tells no two of some worlds apart -/
theorem shown_one {t : Qt} {x : Tp} {L : List Int} {f : Int} (h : (t.shown x L f).length = L.length) {a b : Int} (ha : a ∈ L) (hb : b ∈ L) : t.F a x = t.F b x := by
  have h1 := shown_all h
  rw [← h1] at ha hb
  have h2 := (List.mem_filter.1 ha).2
  have h3 := (List.mem_filter.1 hb).2
  rw [eq_of_beq h2, eq_of_beq h3]
/-- falls are from 0 to 9 -/
def Qt.Falls (t : Qt) (L : List Int) : Prop := ∀ a, a ∈ L → ∀ x, x ∈ t.tests → 0 ≤ t.F a x ∧ t.F a x ≤ 9
theorem Qt.Falls.shown {t : Qt} {L : List Int} (h : t.Falls L) (x : Tp) (f : Int) : t.Falls (t.shown x L f) := fun a ha => h a (List.mem_filter.1 ha).1
theorem not_alike {t : Qt} {L : List Int} (h : t.allApart [] L = false) : ∃ a, a ∈ L ∧ ∃ b, b ∈ L ∧ ∃ x, x ∈ t.tests ∧ t.F a x ≠ t.F b x := by
  have : ¬ t.allApart [] L = true := by rw [h]; decide
  rw [allApart_iff] at this
  simp only [Classical.not_forall] at this
  obtain ⟨a, ha, b, hb, hs, _⟩ := this
  obtain ⟨x, hx, hn⟩ := someB_iff.1 hs
  exact ⟨a, ha, b, hb, x, hx, hn⟩
/-- a test that tells two apart: behind it fewer are enough than there are worlds less 1 -/
theorem behind_split {t : Qt} {L : List Int} (hd : ∀ L', L'.length < L.length → L' ≠ [] → t.depth L' < L'.length) {x : Tp} {a b : Int} (ha : a ∈ L) (hb : b ∈ L) (hne : t.F a x ≠ t.F b x) : t.behind x L = maxTo (fun f => t.depth (t.shown x L f)) 10 ∧ t.behind x L + 1 < L.length := by
  have hno : ∀ f : Int, (t.shown x L f).length < L.length := fun f => by
    have h1 := shown_len t x L f
    rcases Nat.eq_or_lt_of_le h1 with h2 | h2
    · exact absurd (shown_one h2 ha hb) hne
    · exact h2
  have hz : ∀ L' : List Int, ¬ 1 < L'.length → t.depth L' = 0 := fun L' h => by rw [depth_step, allApart_short (by omega)]; rfl
  have e : t.behind x L = maxTo (fun f => t.depth (t.shown x L f)) 10 := by
    unfold Qt.behind Qt.behindW
    rw [anyB_false.2 fun f _ => by have := hno f; simp; omega]
    refine maxTo_congr fun f _ => ?_
    split
    · rfl
    · rename_i h
      rw [hz _ h]
  have h2 : 2 ≤ L.length := by
    obtain ⟨i, hi, e1⟩ := mem_intL0 ha
    obtain ⟨k, hk, e2⟩ := mem_intL0 hb
    rcases Nat.lt_or_ge L.length 2 with h | h
    · obtain rfl : i = k := by omega
      exact absurd (by rw [← e1, e2]) hne
    · exact h
  refine ⟨e, ?_⟩
  rw [e]
  have : maxTo (fun f => t.depth (t.shown x L f)) 10 ≤ L.length - 2 := maxTo_le.2 ⟨by omega, fun f _ => by
    have h3 := hno f
    by_cases h4 : t.shown x L f = []
    · rw [h4, hz [] (by simp)]; omega
    · have := hd _ h3 h4
      omega⟩
  omega
theorem depth_lt (t : Qt) : ∀ (n : Nat) (L : List Int), L.length ≤ n → L ≠ [] → t.depth L < L.length
  | 0, L, h, h0 => absurd (List.eq_nil_of_length_eq_zero (by omega)) h0
  | n + 1, L, h, h0 => by
    have hlen : 0 < L.length := List.length_pos_iff.2 h0
    rw [depth_step]
    split
    · omega
    · rename_i hn
      obtain ⟨a, ha, b, hb, x, hx, hne⟩ := not_alike (by simpa using hn)
      have := (behind_split (fun L' h1 h2 => depth_lt t n L' (by omega) h2) ha hb hne).2
      have hm : minF (L.length : Int) (fun x => 1 + t.behind x L) t.tests ≤ 1 + t.behind x L := minF_le.2 (.inr ⟨x, hx, Int.le_refl _⟩)
      omega
theorem depth_below (t : Qt) {L : List Int} (h : L ≠ []) : t.depth L < L.length := depth_lt t L.length L (Nat.le_refl _) h
theorem behind_none {t : Qt} {L : List Int} (hf : t.Falls L) {x : Tp} (hx : x ∈ t.tests) (h0 : L ≠ []) (h : ∀ a, a ∈ L → ∀ b, b ∈ L → t.F a x = t.F b x) : t.behind x L = L.length ∧ ∃ f : Nat, f < 10 ∧ t.shown x L f = L := by
  obtain ⟨a, ha⟩ := List.exists_mem_of_ne_nil L h0
  obtain ⟨h1, h2⟩ := hf a ha x hx
  have hs : t.shown x L ((t.F a x).toNat : Int) = L := List.filter_eq_self.2 fun b hb => by
    rw [h b hb a ha]
    simp
    omega
  refine ⟨?_, (t.F a x).toNat, by omega, hs⟩
  unfold Qt.behind Qt.behindW
  rw [if_pos (anyB_true.2 ⟨(t.F a x).toNat, by omega, by rw [hs]; simp⟩)]
/-- what the program reckons behind a test -/
def Qt.afterP (t : Qt) (x : Tp) (L : List Int) : Int := if anyB (fun f => t.shown x L f == L) 10 then 1024 else maxTo (fun f => t.depth (t.shown x L f)) 10
/-- how the program reckons -/
theorem depth_prog {t : Qt} {L : List Int} (hf : t.Falls L) (hl : L.length ≤ 100) : t.depth L = if t.allApart [] L then 0 else minF 1024 (fun x => 1 + t.afterP x L) t.tests := by
  rw [depth_step]
  split
  · rfl
  rename_i hn
  obtain ⟨a, ha, b, hb, x0, hx0, hne⟩ := not_alike (by simpa using hn)
  have hd := fun (L' : List Int) (_ : L'.length < L.length) (h2 : L' ≠ []) => depth_below t h2
  have hsp : ∀ x, (∃ a, a ∈ L ∧ ∃ b, b ∈ L ∧ t.F a x ≠ t.F b x) → t.afterP x L = t.behind x L ∧ t.behind x L + 1 < L.length := fun x ⟨a, ha, b, hb, hne⟩ => by
    obtain ⟨h1, h2⟩ := behind_split hd ha hb hne
    refine ⟨?_, h2⟩
    rw [h1]
    unfold Qt.afterP
    rw [anyB_false.2 fun f _ => ?_]
    · rfl
    · cases he : t.shown x L f == L with
      | false => rfl
      | true =>
        have := eq_of_beq he
        exact absurd (shown_one (by rw [this]) ha hb) hne
  have hns : ∀ x, x ∈ t.tests → (¬ ∃ a, a ∈ L ∧ ∃ b, b ∈ L ∧ t.F a x ≠ t.F b x) → t.afterP x L = 1024 ∧ t.behind x L = L.length := fun x hx h => by
    have h' : ∀ a, a ∈ L → ∀ b, b ∈ L → t.F a x = t.F b x := fun a ha b hb => Classical.byContradiction fun hne => h ⟨a, ha, b, hb, hne⟩
    obtain ⟨h1, f, hf1, hf2⟩ := behind_none hf hx (List.ne_nil_of_mem ha) h'
    refine ⟨?_, h1⟩
    unfold Qt.afterP
    rw [if_pos (anyB_true.2 ⟨f, hf1, by rw [hf2]; simp⟩)]
  obtain ⟨h3, h4⟩ := hsp x0 ⟨a, ha, b, hb, hne⟩
  refine Int.le_antisymm (minF_le.2 ?_) (minF_le.2 ?_)
  · rcases minF_le.1 (Int.le_refl (minF 1024 (fun x => 1 + t.afterP x L) t.tests)) with h | ⟨x, hx, h⟩
    · exact .inl (by omega)
    · by_cases hs : ∃ a, a ∈ L ∧ ∃ b, b ∈ L ∧ t.F a x ≠ t.F b x
      · exact .inr ⟨x, hx, by rw [(hsp x hs).1] at h; exact h⟩
      · exact .inl (by have := (hns x hx hs).1; omega)
  · rcases minF_le.1 (Int.le_refl (minF (L.length : Int) (fun x => 1 + t.behind x L) t.tests)) with h | ⟨x, hx, h⟩
    · exact .inr ⟨x0, hx0, by omega⟩
    · by_cases hs : ∃ a, a ∈ L ∧ ∃ b, b ∈ L ∧ t.F a x ≠ t.F b x
      · exact .inr ⟨x, hx, by rw [(hsp x hs).1]; exact h⟩
      · exact .inr ⟨x0, hx0, by have := (hns x hx hs).2; omega⟩
end Go.Proofs.YtcdlbpmffkoejaaDoor
/- Spans, what is known, who is blamed: plain Lean. -/
namespace Go.Proofs.YtcdlbpmffkoejaaDoor
open Go.RowKit Go.Sort
theorem spanN_le {g : Nat → Int} {v : Int} : ∀ {n : Nat}, 0 < n → ((spanN g n).2 ≤ v ↔ ∀ i, i < n → g i ≤ v)
  | 0, h => by omega
  | 1, _ => by
    constructor
    · intro h i hi
      obtain rfl : i = 0 := by omega
      exact h
    · intro h
      exact h 0 (by omega)
  | n + 2, _ => by
    have ih := spanN_le (g := g) (v := v) (n := n + 1) (by omega)
    have e : (spanN g (n + 2)).2 = max (spanN g (n + 1)).2 (g (n + 1)) := rfl
    rw [e]
    constructor
    · intro h i hi
      rcases Nat.lt_or_ge i (n + 1) with h1 | h1
      · exact ih.1 (by omega) i h1
      · obtain rfl : i = n + 1 := by omega
        omega
    · intro h
      have h1 := ih.2 fun i hi => h i (by omega)
      have h2 := h (n + 1) (by omega)
      omega
theorem spanN_ge {g : Nat → Int} {v : Int} : ∀ {n : Nat}, 0 < n → (v ≤ (spanN g n).1 ↔ ∀ i, i < n → v ≤ g i)
  | 0, h => by omega
  | 1, _ => by
    constructor
    · intro h i hi
      obtain rfl : i = 0 := by omega
      exact h
    · intro h
      exact h 0 (by omega)
  | n + 2, _ => by
    have ih := spanN_ge (g := g) (v := v) (n := n + 1) (by omega)
    have e : (spanN g (n + 2)).1 = min (spanN g (n + 1)).1 (g (n + 1)) := rfl
    rw [e]
    constructor
    · intro h i hi
      rcases Nat.lt_or_ge i (n + 1) with h1 | h1
      · exact ih.1 (by omega) i h1
      · obtain rfl : i = n + 1 := by omega
        omega
    · intro h
      have h1 := ih.2 fun i hi => h i (by omega)
      have h2 := h (n + 1) (by omega)
      omega
/-- between what a number of some worlds is -/
def spanOf (f : Int → Int) (L : List Int) : Int × Int := spanN (fun k => f (intL0 L k)) L.length
theorem spanOf_le {f : Int → Int} {L : List Int} {v : Int} (h : L ≠ []) : (spanOf f L).2 ≤ v ↔ ∀ a, a ∈ L → f a ≤ v := by
  unfold spanOf
  rw [spanN_le (List.length_pos_iff.2 h)]
  exact ⟨fun h a ha => by obtain ⟨i, hi, rfl⟩ := mem_intL0 ha; exact h i hi, fun h i hi => h _ (intL0_mem hi)⟩
theorem spanOf_ge {f : Int → Int} {L : List Int} {v : Int} (h : L ≠ []) : v ≤ (spanOf f L).1 ↔ ∀ a, a ∈ L → v ≤ f a := by
  unfold spanOf
  rw [spanN_ge (List.length_pos_iff.2 h)]
  exact ⟨fun h a ha => by obtain ⟨i, hi, rfl⟩ := mem_intL0 ha; exact h i hi, fun h i hi => h _ (intL0_mem hi)⟩
theorem spanOf_in {f : Int → Int} {L : List Int} {a : Int} (ha : a ∈ L) : (spanOf f L).1 ≤ f a ∧ f a ≤ (spanOf f L).2 :=
  ⟨(spanOf_ge (List.ne_nil_of_mem ha)).1 (Int.le_refl _) a ha, (spanOf_le (List.ne_nil_of_mem ha)).1 (Int.le_refl _) a ha⟩
theorem spanOf_order {f : Int → Int} {L : List Int} (h : L ≠ []) : (spanOf f L).1 ≤ (spanOf f L).2 := by
  obtain ⟨a, ha⟩ := List.exists_mem_of_ne_nil L h
  have := spanOf_in (f := f) ha
  omega
/-- with the same numbers the span is the same -/
theorem spanOf_alike {f f' : Int → Int} {L L' : List Int} (h1 : ∀ a, a ∈ L → ∃ b, b ∈ L' ∧ f a = f' b) (h2 : ∀ b, b ∈ L' → ∃ a, a ∈ L ∧ f a = f' b) : spanOf f L = spanOf f' L' := by
  by_cases h : L = []
  · subst h
    have : L' = [] := by
      cases L' with
      | nil => rfl
      | cons b _ =>
        obtain ⟨a, ha, _⟩ := h2 b (by simp)
        cases ha
    subst this
    rfl
  · have h' : L' ≠ [] := by
      obtain ⟨a, ha⟩ := List.exists_mem_of_ne_nil L h
      obtain ⟨b, hb, _⟩ := h1 a ha
      exact List.ne_nil_of_mem hb
    refine Prod.ext (Int.le_antisymm ?_ ?_) (Int.le_antisymm ?_ ?_)
    · refine (spanOf_ge h').2 fun b hb => ?_
      obtain ⟨a, ha, e⟩ := h2 b hb
      rw [← e]
      exact (spanOf_in ha).1
    · refine (spanOf_ge h).2 fun a ha => ?_
      obtain ⟨b, hb, e⟩ := h1 a ha
      rw [e]
      exact (spanOf_in hb).1
    · refine (spanOf_le h).2 fun a ha => ?_
      obtain ⟨b, hb, e⟩ := h1 a ha
      rw [e]
      exact (spanOf_in hb).2
    · refine (spanOf_le h').2 fun b hb => ?_
      obtain ⟨a, ha, e⟩ := h2 b hb
      rw [← e]
      exact (spanOf_in ha).2
/-! ### What is known -/
/-! ### Draws -/
/-- by how much all wells lower a well together in a world -/
def Qt.lowers (t : Qt) (d : Nat → Int) (n : Nat) (q : Nat) (a : Int) : Int := sumTo (fun i => d i * t.F a (i, q)) n
/-- whether a well lowers another one the most in a world (the reference's way) -/
def Qt.blamed (t : Qt) (d : Nat → Int) (m q p : Nat) (a : Int) : Bool :=
  !anyB (fun i => decide (i ≠ p) && decide (i ≠ q) && decide (d p * t.F a (p, q) ≤ d i * t.F a (i, q))) m && (decide (p ≠ q) && decide (0 < d p * t.F a (p, q)))
/-- the program's way -/
def Qt.blamedP (t : Qt) (d : Nat → Int) (m q p : Nat) (a : Int) : Bool :=
  !anyB (fun k => decide (d p * t.F a (p, q) ≤ if k ≠ q ∧ k ≠ p then d k * t.F a (k, q) else 0)) m
theorem blamed_prog {t : Qt} {d : Nat → Int} {m q p : Nat} {a : Int} (hp : p < m) (hne : p ≠ q) : t.blamedP d m q p a = t.blamed d m q p a := by
  unfold Qt.blamedP Qt.blamed
  refine Bool.eq_iff_iff.2 ?_
  simp only [Bool.and_eq_true, Bool.not_eq_true', anyB_false, decide_eq_true_eq, decide_eq_false_iff_not, Bool.and_eq_false_iff]
  constructor
  · intro h
    refine ⟨fun i hi => ?_, hne, ?_⟩
    · have := h i hi
      by_cases h1 : i ≠ p
      · by_cases h2 : i ≠ q
        · rw [if_pos ⟨h2, h1⟩] at this
          exact .inr this
        · exact .inl (.inr h2)
      · exact .inl (.inl h1)
    · have := h p hp
      rw [if_neg (fun e => e.2 rfl)] at this
      omega
  · rintro ⟨h1, _, h2⟩ k hk
    split
    · rename_i hc
      rcases h1 k hk with (h | h) | h
      · exact absurd hc.2 h
      · exact absurd hc.1 h
      · exact h
    · omega
end Go.Proofs.YtcdlbpmffkoejaaDoor
/- Walks of the judge's helpers: SameInts, Known of the reference 01; Huge of the law 05. Conditions: lengths are Go's. -/
namespace Go.Proofs.YtcdlbpmffkoejaaDoor
open Go.RowKit Go.Sort
theorem sameInts_any (A B : Option Addr) (n m c c' : Nat) (f g : Nat → Int) (w : World) (hn : n ≤ 9223372036854775807) (hm : m ≤ 9223372036854775807) (hf : IntsAt w A n f) (hg : IntsAt w B m g) :
    Calls Tryd.prog 21 #[.slice A n c, .slice B m c'] w fun e w' => e = .returned (.bool (decide (n = m) && !anyB (fun i => f i != g i) n)) ∧ Below w.heap.size w w' := by
  have HF := Lib.hid hf
  have HG := Lib.hid hg
  clear hf hg
  by_cases he : n = m
  · subst he
    go_enter Tryd.func21, Tryd.ntmps21
    go_wp2_with fail
    go_loopw [5] (fun i wr => ∃ k : Nat, k ≤ n ∧ i = .int .i64 k ∧ anyB (fun i => f i != g i) k = false ∧ Below w.heap.size w wr) (fun i _ => n - (intOf i).toNat)
    case atStart => exact ⟨0, Nat.zero_le _, rfl, rfl, Below.refl _ _⟩
    case round =>
      obtain ⟨k, hk, rfl, hno, hbel⟩ := hrel
      have HN := Lib.hid hno
      clear hno
      by_cases hlt : k < n
      · rcases HF.out.mono hbel with h0 | ⟨b, o, hA, hb, hcell⟩
        · omega
        have c0 := hcell k hlt
        clear hcell
        subst hA
        rcases HG.out.mono hbel with h0 | ⟨b2, o2, hA2, hb2, hcell2⟩
        · omega
        have c2 := hcell2 k hlt
        clear hcell2
        subst hA2
        cases hd : (f k != g k)
        all_goals
          go_wp2_with fail
          refine wp_region_quiet_below (by kernel_rfl) (by kernel_rfl) ?_
          repeat (go_big_quiet_step ((fail)))
          refine wpQuiet_nil ?_
          intro w3 hw3
          have hb3 := below_of_regrown hw3
          clear hw3
          go_wp2_with fail
        · go_roundw
          case rel => exact ⟨k + 1, by omega, by go_num, anyB_step HN.out hd, bTrans hbel hb3⟩
          case measure => simp [intOf]; omega
        · go_ret
          exact ⟨ret_bool (by rw [anyB_hit hlt hd]; simp), bTrans hbel hb3⟩
      · obtain rfl : k = n := by omega
        go_wp2_with fail
        go_ret
        exact ⟨ret_bool (by rw [HN.out]; simp), hbel⟩
  · have hne : ((n : Int) == (m : Int)) = false := by simp; omega
    have hne2 : ((n : Int) != (m : Int)) = true := by simp; omega
    go_enter Tryd.func21, Tryd.ntmps21
    go_wp2_with fail
    all_goals
      go_ret
      exact ⟨ret_bool (by simp [he]), Below.refl _ _⟩
end Go.Proofs.YtcdlbpmffkoejaaDoor
/- The walk of Huge of the law 05. Conditions: lengths are Go's. -/
namespace Go.Proofs.YtcdlbpmffkoejaaDoor
open Go.RowKit Go.Sort
/-- far too much of something -/
def Wd.huge (x : Wd) : Bool := decide (40 < x.n) || anyB (fun k => decide (40 < x.len k)) x.n
def Qt.huge (t : Qt) : Bool := decide (40 < t.nw) || decide (40 < t.nf) || anyB (fun i => (t.world i).huge) t.nw
set_option maxHeartbeats 4000000 in
set_option maxRecDepth 100000 in
theorem huge_any (Aw Af : Option Addr) (cw cf : Nat) (t : Qt) (w : World) (hs : t.Small) (hT : QAt w Aw Af t) :
    Calls Tryd.prog 4 #[.agg #[.int .i64 t.wells, .slice Aw t.nw cw, .slice Af t.nf cf]] w fun e w' => e = .returned (.bool t.huge) ∧ Below w.heap.size w w' := by
  have hb0 := bAlloc (Below.refl w.heap.size w) (.cells #[.int .i64 t.wells, .slice Aw t.nw cw, .slice Af t.nf cf] 25)
  have HT := Lib.hid (hT.mono hb0)
  have HB := Lib.hid hb0
  have HS := Lib.hid hs
  clear hT hb0 hs
  by_cases h1 : 40 < t.nw
  · have HH := Lib.hid (show t.huge = true by unfold Qt.huge; simp [h1])
    have g1 : decide ((t.nw : Int) > 40) = true := by simp; omega
    have g2 : (40 : Int) < (t.nw : Int) := by omega
    go_enter Tryd.func4, Tryd.ntmps4
    go_wp2_with fail
    go_ret
    exact ⟨ret_bool (by rw [HH.out]), HB.out⟩
  have g1 : decide ((t.nw : Int) > 40) = false := by simp; omega
  have g2 : ¬ (40 : Int) < (t.nw : Int) := by omega
  by_cases h2 : 40 < t.nf
  · have HH := Lib.hid (show t.huge = true by unfold Qt.huge; simp [h2])
    have g3 : (40 : Int) < (t.nf : Int) := by omega
    go_enter Tryd.func4, Tryd.ntmps4
    go_wp2_with fail
    go_ret
    exact ⟨ret_bool (by rw [HH.out]), HB.out⟩
  have g3 : ¬ (40 : Int) < (t.nf : Int) := by omega
  have g4 : decide ((t.nf : Int) > 40) = false := by simp; omega
  have g5 : decide ((40 : Int) < (t.nf : Int)) = false := by simp; omega
  have g6 : decide ((40 : Int) < (t.nw : Int)) = false := by simp; omega
  have HH := Lib.hid (show t.huge = anyB (fun i => (t.world i).huge) t.nw by unfold Qt.huge; simp [h1, h2])
  have H1 := Lib.hid (show t.nw ≤ 40 by omega)
  clear h1 h2
  go_enter Tryd.func4, Tryd.ntmps4
  go_wp2_with fail
  go_loopw [3] (fun s3 wr => ∃ i : Nat, i ≤ t.nw ∧ s3 = .int .i64 i ∧ anyB (fun i => (t.world i).huge) i = false ∧ Below (w.alloc (.cells #[.int .i64 t.wells, .slice Aw t.nw cw, .slice Af t.nf cf] 25)).heap.size (w.alloc (.cells #[.int .i64 t.wells, .slice Aw t.nw cw, .slice Af t.nf cf] 25)) wr) (fun s3 _ => t.nw - (intOf s3).toNat)
  case atStart => exact ⟨0, Nat.zero_le _, rfl, rfl, Below.refl _ _⟩
  case round =>
    obtain ⟨i, hi, rfl, hno, hbel⟩ := hrel
    have HN := Lib.hid hno
    have HL := Lib.hid hbel
    obtain ⟨bc3, bf3⟩ := bcell hbel
    have hz3 := hbel.size
    simp only [World.size_alloc] at hz3
    have hy3 : w.heap.size < wr.heap.size := hz3
    clear hbel hno
    by_cases hlt : i < t.nw
    · rcases (HT.out.mono HL.out).worlds with h0 | ⟨b, o, hA, hb, hcell⟩
      · omega
      obtain ⟨A', c', c0, hrow, hlen⟩ := hcell i hlt
      have HROW := Lib.hid hrow
      have i1 : (i : Int) < (t.nw : Int) := by omega
      have i0 : i ≤ 40 := by have := H1.out; omega
      obtain ⟨n, hn⟩ : ∃ n, (t.world i).n = n := ⟨_, rfl⟩
      rw [hn] at c0
      have HXN := Lib.hid hn
      clear hcell hrow hlen
      subst hA
      by_cases h3 : 40 < n
      · have HX := Lib.hid (show t.huge = true by rw [HH.out]; exact anyB_hit hlt (by unfold Wd.huge; rw [hn]; simp [h3]))
        have g7 : (40 : Int) < (n : Int) := by omega
        clear hn
        go_wp2_with fail
        go_ret
        exact ⟨ret_bool (by rw [HX.out]), bTrans HB.out HL.out⟩
      · have g7 : ¬ (40 : Int) < (n : Int) := by omega
        have g8 : decide ((40 : Int) < (n : Int)) = false := by simp; omega
        have n40 : n ≤ 40 := by omega
        have HY := Lib.hid (show (t.world i).huge = anyB (fun k => decide (40 < (t.world i).len k)) n by unfold Wd.huge; rw [hn]; simp [h3])
        clear hn h3
        go_wp2_with fail
        go_loopw [4] (fun s4 wx => ∃ k : Nat, k ≤ n ∧ s4 = .int .i64 k ∧ anyB (fun k => decide (40 < (t.world i).len k)) k = false ∧ wx = wr) (fun s4 _ => n - (intOf s4).toNat)
        case atStart => exact ⟨0, Nat.zero_le _, rfl, rfl, rfl⟩
        case round =>
          obtain ⟨k, hk, rfl, hno, rfl⟩ := hrel
          have HK := Lib.hid hno
          clear hno
          by_cases hlk : k < n
          · rcases HROW.out with h0 | ⟨b', o', hA, hb', hc'⟩
            · have := HXN.out
              omega
            obtain ⟨A'', c'', h3, _, h5⟩ := hc' k (by rw [HXN.out]; exact hlk)
            have k1 : (k : Int) < (n : Int) := by omega
            have k0 : (0 : Int) ≤ (k : Int) := by omega
            clear hc'
            subst hA
            obtain ⟨l, hl⟩ : ∃ l, (t.world i).len k = l := ⟨_, rfl⟩
            rw [hl] at h3 h5
            have HLL := Lib.hid hl
            clear hl
            by_cases h4 : 40 < l
            · have HX := Lib.hid (show t.huge = true by rw [HH.out]; refine anyB_hit hlt ?_; rw [HY.out]; exact anyB_hit hlk (by rw [HLL.out]; simp [h4]))
              have g9 : (40 : Int) < (l : Int) := by omega
              go_wp2_with fail
              go_ret
              exact ⟨ret_bool (by rw [HX.out]), bTrans HB.out HL.out⟩
            · have HX := Lib.hid (anyB_step HK.out (show (fun k => decide (40 < (t.world i).len k)) k = false by simp only [HLL.out]; simpa using h4))
              have g9 : ¬ (40 : Int) < (l : Int) := by omega
              go_wp2_with fail
              go_roundw
              case rel =>
                first
                | exact ⟨k + 1, by omega, by go_num, HX.out, by trivial⟩
                | ((repeat apply Exists.intro)
                   refine ⟨⟨k + 1, by omega, ?_, HX.out, rfl⟩, rfl⟩
                   go_num)
              case measure => simp [intOf]; omega
          · obtain rfl : k = n := by omega
            have HX := Lib.hid (anyB_step HN.out (show (fun i => (t.world i).huge) i = false by simp only [HY.out]; exact HK.out))
            have k1 : ¬ (k : Int) < (k : Int) := by omega
            go_wp2_with fail
            go_roundw
            case rel =>
              first
              | exact ⟨i + 1, by omega, by go_num, HX.out, HL.out⟩
              | ((repeat apply Exists.intro)
                 refine ⟨⟨i + 1, by omega, ?_, HX.out, HL.out⟩, rfl⟩
                 go_num)
            case measure => simp [intOf]; omega
    · obtain rfl : i = t.nw := by omega
      have HX := Lib.hid (show t.huge = false by rw [HH.out]; exact HN.out)
      go_wp2_with fail
      go_ret
      exact ⟨ret_bool (by rw [HX.out]), bTrans HB.out HL.out⟩
end Go.Proofs.YtcdlbpmffkoejaaDoor
