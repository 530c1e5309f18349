/- Parts joined: what the claim TopDug needs beyond the others. -/
import Derived.Test.YthnojgdckkdcgaaGreatDoorNQTopDugA
set_option linter.unusedSimpArgs false
set_option linter.unusedVariables false
namespace Go.Proofs.YthnojgdckkdcgaaGreatDoor
open Go.RowKit Go.Sort
theorem RowK.setTy {w : World} {A : Option Addr} {T t : TypeId} {xs : List Value} (h : RowK w A T xs) {b : Nat} (hb : ∃ cs, TBox w b t cs) (ht : t ≠ T) (o : Nat) (u : Value) : RowK (w.setCell ⟨b, o, none⟩ u) A T xs := by
  obtain ⟨cs, hb⟩ := hb
  exact h.kept (Kept.set (l := [T]) hb (by simpa using ht) o u) (by simp)
def ShMore (w : World) (S : Sh) (e : Ending) : Prop := ∃ Ar Af cr cf, e = .returned (.agg #[.slice Ar S.nr cr, .slice Af S.nf cf, .int .i64 S.deep, .int .i64 S.haul, .int .i64 S.rest]) ∧ RowK w Ar 190 (rockL S.rock S.nr) ∧ RowK w Af 3 (intL S.foot S.nf)
theorem foot_snoc (S : Sh) (r : Int) : intL (S.more r).foot (S.nf + 1) = intL S.foot S.nf ++ [.int .i64 r] := by
  show intL (S.more r).foot S.nf ++ [.int .i64 ((S.more r).foot S.nf)] = _
  congr 1
  · exact intL_congr fun i hi => if_neg (by omega)
  · simp [Sh.more]
set_option maxHeartbeats 4000000 in
set_option maxRecDepth 100000 in
theorem moreSh_any (Ar Af : Option Addr) (cr cf : Nat) (S : Sh) (r : Int) (w : World) (hr : S.nr * 32 ≤ 140737488351232) (hf : S.nf * 8 ≤ 140737488351232) (hS : ShAt w Ar Af S) :
    Calls Tryz.prog 37 #[.agg #[.slice Ar S.nr cr, .slice Af S.nf cf, .int .i64 S.deep, .int .i64 S.haul, .int .i64 S.rest], .int .i64 r] w fun e w' => ShMore w' (S.more r) e ∧ Below w.heap.size w w' := by
  have hb2 := bAlloc (bAlloc (Below.refl w.heap.size w) (.cells #[.slice Ar S.nr cr, .slice Af S.nf cf, .int .i64 S.deep, .int .i64 S.haul, .int .i64 S.rest] 68)) (.cells #[.slice none 0 0, .slice none 0 0, .int .i64 0, .int .i64 0, .int .i64 0] 68)
  have HS := Lib.hid (hS.mono hb2)
  have HB := Lib.hid hb2
  have HTR := Lib.hid (TBox.new (w.alloc (.cells #[.slice Ar S.nr cr, .slice Af S.nf cf, .int .i64 S.deep, .int .i64 S.haul, .int .i64 S.rest] 68)) #[.slice none 0 0, .slice none 0 0, .int .i64 0, .int .i64 0, .int .i64 0] 68)
  clear hS hb2
  obtain ⟨i0, hi, iz0, iz1, iz2⟩ := info_parts infoInt
  go_enter Tryz.func37, Tryz.ntmps37
  go_wp2_with fail
  refine (copySh_any _ _ _ _ S _ hr hf HS.out).mono ?_
  rintro e w1 ⟨⟨gr, gf, c1, c2, rfl, ho1, ho2⟩, hb1⟩
  have HR1 := Lib.hid ho1
  have HF1 := Lib.hid ho2
  have HB1 := Lib.hid hb1
  obtain ⟨bc1, bf1⟩ := bcell hb1
  have hz1 := hb1.size
  simp only [World.size_alloc] at hz1
  have hy1 : w.heap.size < w1.heap.size := by omega
  have hy2 : w.heap.size + 1 < w1.heap.size := by omega
  have HX1 := Lib.hid (TBox.new w1 #[.slice (some ⟨gr, 0, none⟩) S.nr c1, .slice (some ⟨gf, 0, none⟩) S.nf c2, .int .i64 S.deep, .int .i64 S.haul, .int .i64 S.rest] 68)
  have HN := Lib.hid (show (S.nf + 1) * 8 ≤ 140737488355328 by omega)
  have HLF := Lib.hid (fun k (hk : (Value.slice (some ⟨gf, 0, none⟩) S.nf c2).ownBlock = some k) => (ho2.lt k hk))
  clear ho1 ho2 hb1
  have HO2 := Lib.hid (show ((w1.alloc (.cells #[.slice (some ⟨gr, 0, none⟩) S.nr c1, .slice (some ⟨gf, 0, none⟩) S.nf c2, .int .i64 S.deep, .int .i64 S.haul, .int .i64 S.rest] 68)).alloc (.cells #[.int .i64 r] 3)).ownsRow (w.heap.size + 1 + 1) 3 1 (.slice (some ⟨gf, 0, none⟩) S.nf c2) S.nf (intL S.foot S.nf) from by
    have := (HF1.out.alloc (.cells #[.slice (some ⟨gr, 0, none⟩) S.nr c1, .slice (some ⟨gf, 0, none⟩) S.nf c2, .int .i64 S.deep, .int .i64 S.haul, .int .i64 S.rest] 68)).alloc (.cells #[.int .i64 r] 3)
    simpa using this)
  have HB2 := Lib.hid (show Below (w.heap.size + 1 + 1) ((w.alloc (.cells #[.slice Ar S.nr cr, .slice Af S.nf cf, .int .i64 S.deep, .int .i64 S.haul, .int .i64 S.rest] 68)).alloc (.cells #[.slice none 0 0, .slice none 0 0, .int .i64 0, .int .i64 0, .int .i64 0] 68)) ((w1.alloc (.cells #[.slice (some ⟨gr, 0, none⟩) S.nr c1, .slice (some ⟨gf, 0, none⟩) S.nf c2, .int .i64 S.deep, .int .i64 S.haul, .int .i64 S.rest] 68)).alloc (.cells #[.int .i64 r] 3)) by
    have := bAlloc (bAlloc HB1.out (.cells #[.slice (some ⟨gr, 0, none⟩) S.nr c1, .slice (some ⟨gf, 0, none⟩) S.nf c2, .int .i64 S.deep, .int .i64 S.haul, .int .i64 S.rest] 68)) (.cells #[.int .i64 r] 3)
    simpa using this)
  go_wp2_with (at_builtin; refine wpList_append_own _ rfl (Operand.tmp 9) (Operand.tmp 11) 34 rfl (w.heap.size + 1 + 1) 3 i0 (.int .i64 0) 1 8 Tryz.underlying34 hi iz0 iz1 iz2 rfl (by decide) _ S.nf (intL S.foot S.nf) rfl HO2.out ⟨w1.heap.size + 1, 0, none⟩ 1 1 [.int .i64 r] rfl rfl ?c1 ?c2 ?c3 HN.out ?c4 ?_)
  case c1 =>
    intro j u hj
    have hc := cell_of_row _ (w1.heap.size + 1) j _ _ _ (show ((w1.alloc (.cells #[.slice (some ⟨gr, 0, none⟩) S.nr c1, .slice (some ⟨gf, 0, none⟩) S.nf c2, .int .i64 S.deep, .int .i64 S.haul, .int .i64 S.rest] 68)).alloc (.cells #[.int .i64 r] 3)).heap[w1.heap.size + 1]? = some (Obj.cells #[.int .i64 r] 3 (0, 0)) by have := heap_alloc_new (w1.alloc (.cells #[.slice (some ⟨gr, 0, none⟩) S.nr c1, .slice (some ⟨gf, 0, none⟩) S.nf c2, .int .i64 S.deep, .int .i64 S.haul, .int .i64 S.rest] 68)) (.cells #[.int .i64 r] 3); simpa using this)
    rw [show (⟨w1.heap.size + 1, 0, none⟩ : Addr).add j = ⟨w1.heap.size + 1, j, none⟩ from by unfold Addr.add; split <;> simp_all, hc]
    simpa using hj
  case c2 =>
    intro u hu
    simp only [List.mem_cons, List.not_mem_nil, or_false] at hu
    rcases hu with rfl
    rfl
  case c3 => unfold maxLen; have := HN.out; omega
  case c4 => simp <;> omega
  intro v' w4 hown4 hg4 _
  obtain ⟨A4, c4, rfl, hk4⟩ := RowK.own hown4
  have hnb : some w1.heap.size ≠ (Value.slice (some ⟨gf, 0, none⟩) S.nf c2).ownBlock := fun e => by have := (HLF.out _ e.symm); omega
  have HX4 := Lib.hid ((HX1.out.mono (bAlloc (Below.refl _ _) (.cells #[.int .i64 r] 3))).grown hg4 hnb)
  have hB4 : Below (w.heap.size + 1 + 1) ((w.alloc (.cells #[.slice Ar S.nr cr, .slice Af S.nf cf, .int .i64 S.deep, .int .i64 S.haul, .int .i64 S.rest] 68)).alloc (.cells #[.slice none 0 0, .slice none 0 0, .int .i64 0, .int .i64 0, .int .i64 0] 68)) w4 := HB2.out.grown hg4 (by simp <;> omega) (fun k hk => (HO2.out.lt k hk).1)
  have HB4 := Lib.hid hB4
  have hTR : TBox w4 (w.heap.size + 1) 68 #[.slice none 0 0, .slice none 0 0, .int .i64 0, .int .i64 0, .int .i64 0] := (hB4.block (w.heap.size + 1) (by omega)).trans (by have := HTR.out; simpa [TBox] using this)
  have HTR4 := Lib.hid hTR
  have HF4 := Lib.hid hk4
  have hro : ∃ A c, Value.slice (some ⟨gr, 0, none⟩) S.nr c1 = .slice A S.nr c ∧ RowK w1 A 190 (rockL S.rock S.nr) := RowK.own HR1.out
  obtain ⟨A0, c0, e0, hro⟩ := hro
  injection e0 with e0 _ e1
  subst e0 e1
  have HR4 := Lib.hid ((hro.mono (bAlloc (bAlloc (Below.refl _ _) (.cells #[.slice (some ⟨gr, 0, none⟩) S.nr c1, .slice (some ⟨gf, 0, none⟩) S.nf c2, .int .i64 S.deep, .int .i64 S.haul, .int .i64 S.rest] 68)) (.cells #[.int .i64 r] 3))).kept (Kept.of_own (l := [190]) hg4 HO2.out (by decide)) (by simp))
  have hlt4 : w1.heap.size < w4.heap.size := HX4.out.lt
  obtain ⟨r0, r1, r2, r3, r4, _⟩ := HX4.out.c5
  have rf1 := HX4.out.frozen 1
  obtain ⟨s0, s1, s2, s3, s4, _⟩ := hTR.c5
  have t0 := hTR.frozen 0
  have t1 := hTR.frozen 1
  have t2 := hTR.frozen 2
  have t3 := hTR.frozen 3
  have t4 := hTR.frozen 4
  have hy4 : w.heap.size + 1 < w4.heap.size := hTR.lt
  clear hTR hown4 hg4 hnb hB4 hk4 bc1 bf1 hro
  go_wp2_with fail
  refine bodyPost_ret (v := .agg #[.slice (some ⟨gr, 0, none⟩) S.nr c1, .slice A4 (S.nf + 1) c4, .int .i64 S.deep, .int .i64 S.haul, .int .i64 S.rest]) (by simp [results, Tryz.results37, go_sem, *]) rfl ?_
  have ty1 : ∃ cs, TBox w4 w1.heap.size 68 cs := ⟨_, HX4.out⟩
  have ty2 : ∃ cs, TBox w4 (w.heap.size + 1) 68 cs := ⟨_, HTR4.out⟩
  refine ⟨⟨some ⟨gr, 0, none⟩, A4, c1, c4, rfl, ?_, ?_⟩, ?_⟩
  · have h := HR4.out
    show RowK _ _ _ (rockL S.rock S.nr)
    repeat with_reducible refine RowK.setTy (t := 68) ?_ ?_ (by decide) _ _
    · with_reducible exact h
    all_goals repeat (first | with_reducible refine TyB.set ?_ _ _ _ | with_reducible exact ty1 | with_reducible exact ty2)
  · have h := HF4.out
    show RowK _ _ _ (intL (S.more r).foot (S.nf + 1))
    rw [foot_snoc]
    repeat with_reducible refine RowK.setTy (t := 68) ?_ ?_ (by decide) _ _
    · with_reducible exact h
    all_goals repeat (first | with_reducible refine TyB.set ?_ _ _ _ | with_reducible exact ty1 | with_reducible exact ty2)
  · have h0 : Below w.heap.size w w4 := bTrans HB.out (by have := HB4.out; simpa using this)
    repeat (with_reducible refine Below.setCell ?_ ?_ _)
    · exact h0
    all_goals first | (show w.heap.size ≤ w1.heap.size; omega) | (show w.heap.size ≤ w.heap.size + 1; omega)
end Go.Proofs.YthnojgdckkdcgaaGreatDoor

namespace Go.Proofs.YthnojgdckkdcgaaGreatDoor
open Go.RowKit Go.Sort
theorem neqRock (w : World) (a b c d : Int) : (binOp .neq 190 (.agg #[.int .i64 a, .int .i64 b, .int .i64 c, .int .i64 d]) (.agg #[.int .i64 a, .int .i64 b, .int .i64 c, .int .i64 d])).run Tryz.prog w = .ok (.bool false) w := by
  simp [go_sem]
attribute [go_sem ↓] neqRock
end Go.Proofs.YthnojgdckkdcgaaGreatDoor


namespace Go.Proofs.YthnojgdckkdcgaaGreatDoor
open Go.RowKit Go.Sort
theorem isRock_b (Ar Af : Option Addr) (cr cf : Nat) (S : Sh) (n : Int) (b : Bool) (h : inR n 0 (S.nr - 1) = b) (w : World) (hr : S.nr ≤ 9223372036854775807) :
    Calls Tryz.prog 35 #[.agg #[.slice Ar S.nr cr, .slice Af S.nf cf, .int .i64 S.deep, .int .i64 S.haul, .int .i64 S.rest], .int .i64 n] w fun e w' => e = .returned (.bool b) ∧ Below w.heap.size w w' := by
  have := isRock_any Ar Af cr cf S n w hr
  rw [h] at this
  exact this
theorem cheap_known {S : Sh} (ok : S.Ok) : ∃ n e, S.cheapOut = (n, e) ∧ 0 ≤ n ∧ n ≤ 4968 ∧ (e = 0 ∨ e = 3) := by
  rcases out_cases ok with ⟨_, _, n, _, h, _, _, _, h0, h1⟩ | ⟨_, _, h⟩
  · exact ⟨n, 0, h, h0, h1, .inl rfl⟩
  · exact ⟨0, 3, h, by omega, by omega, .inr rfl⟩
theorem next_cases {S : Sh} (ok : S.Ok) {r : Int} (hr : inR r 0 ((S.nr : Int) - 1) = true) (h12 : S.nf ≠ 12) : ∃ n1 e1 n2 e2, S.cheapOut = (n1, e1) ∧ (S.more r).cheapOut = (n2, e2) ∧ 0 ≤ n1 ∧ n1 ≤ 4968 ∧ 0 ≤ n2 ∧ n2 ≤ 4968 ∧ ((e1 = 3 ∧ S.nextOut r = (0, 3)) ∨ (e1 = 0 ∧ e2 = 3 ∧ S.nextOut r = (0, 3)) ∨ (e1 = 0 ∧ e2 = 0 ∧ S.nextOut r = (n2 - n1, 0))) := by
  obtain ⟨h0, h1⟩ := inR_iff.1 hr
  have hnf := ok.nf
  obtain ⟨n1, e1, q1, a1, b1, c1⟩ := cheap_known ok
  obtain ⟨n2, e2, q2, a2, b2, c2⟩ := cheap_known (ok.more h0 (by omega) (by omega))
  refine ⟨n1, e1, n2, e2, q1, q2, a1, b1, a2, b2, ?_⟩
  rw [nextOut_rest ok hr h12, q1, q2]
  rcases c1 with rfl | rfl
  · rcases c2 with rfl | rfl
    · exact .inr (.inr ⟨rfl, rfl, rfl⟩)
    · exact .inr (.inl ⟨rfl, rfl, rfl⟩)
  · exact .inl ⟨rfl, rfl⟩
end Go.Proofs.YthnojgdckkdcgaaGreatDoor


namespace Go.Proofs.YthnojgdckkdcgaaGreatDoor
open Go.RowKit Go.Sort
/-- a town of which one spot has another shaft -/
def Pt.setSh (t : Pt) (s : Nat) (S : Sh) : Pt := { t with spot := fun k => if k = s then { t.spot s with sh := S } else t.spot k }
theorem setSh_at (t : Pt) (s : Nat) (S : Sh) : (t.setSh s S).spot s = { t.spot s with sh := S } := if_pos rfl
theorem setSh_other (t : Pt) {s k : Nat} (S : Sh) (h : k ≠ s) : (t.setSh s S).spot k = t.spot k := if_neg h
theorem setSh_forb (t : Pt) (s : Nat) (S : Sh) : (t.setSh s S).forb = t.forb := by
  funext k w a
  unfold Pt.forb
  by_cases h : k = s
  · subst h
    rw [setSh_at]
    rfl
  · rw [setSh_other t S h]
    rfl
theorem setSh_whoB (t : Pt) (s : Nat) (S : Sh) : (t.setSh s S).whoB = t.whoB := by
  funext k w
  unfold Pt.whoB Pt.inN Pt.inTo
  rw [setSh_forb]
  rfl
theorem setSh_who (t : Pt) (s : Nat) (S : Sh) (k : Nat) : (t.setSh s S).who k = t.who k := by
  unfold Pt.who
  rw [setSh_whoB]
  rfl
theorem setSh_asked (t : Pt) (s : Nat) (S : Sh) (k n : Nat) : (t.setSh s S).askedTo k n = t.askedTo k n := by
  unfold Pt.askedTo
  rw [setSh_whoB]
  rfl
theorem setSh_cheap (t : Pt) (s : Nat) (S : Sh) : (t.setSh s S).cheap s = S.cheapOut := by
  unfold Pt.cheap
  rw [setSh_at]
theorem setSh_ok {t : Pt} (h : t.Ok) {s : Nat} (hs : s < t.ns) {S : Sh} (hS : S.Ok) : (t.setSh s S).Ok := ⟨h.q, h.no, h.np, h.ns, h.far, h.harm, h.many, h.old, h.pence, fun i hi => by
  by_cases e : i = s
  · subst e
    rw [setSh_at]
    exact { h.spot i hs with sh := hS }
  · rw [setSh_other t S e]
    exact h.spot i hi⟩
theorem setSh_small {t : Pt} (h : t.Small) {s : Nat} (hs : s < t.ns) {S : Sh} (h1 : S.nr ≤ 9223372036854775807) (h2 : S.nf ≤ 9223372036854775807) : (t.setSh s S).Small := ⟨h.q, h.no, h.np, h.ns, fun i hi => by
  by_cases e : i = s
  · subst e
    rw [setSh_at]
    exact { h.spot i hs with nr := h1, nf := h2 }
  · rw [setSh_other t S e]
    exact h.spot i hi⟩
theorem price_cheap {t : Pt} (ok : t.Ok) {s : Nat} (hs : s < t.ns) : t.priceOut (s : Int) = t.cheap s := by
  unfold Pt.priceOut
  rw [hasB_in hs, Pt.askErr_ok ok, if_pos rfl, Int.toNat_natCast]
/-- what a foot more does to the price and to the whole price -/
theorem more_cases {t : Pt} (ok : t.Ok) {s : Nat} (hs : s < t.ns) {r : Int} (hr : inR r 0 (((t.spot s).sh.nr : Int) - 1) = true) (h5 : (t.spot s).sh.nf ≤ 5) :
    ∃ n1 e1 n2 e2 b e p h q i, t.priceOut (s : Int) = (n1, e1) ∧ (t.setSh s ((t.spot s).sh.more r)).priceOut (s : Int) = (n2, e2) ∧ (t.spot s).sh.nextOut r = (b, e) ∧ t.wholeOut (s : Int) = (p, h) ∧ (t.setSh s ((t.spot s).sh.more r)).wholeOut (s : Int) = (q, i) ∧ 0 ≤ n1 ∧ n1 ≤ 4968 ∧ 0 ≤ n2 ∧ n2 ≤ 4968 ∧
      ((e = 3 ∧ e1 = 3) ∨ (e = 3 ∧ e1 = 0 ∧ e2 = 3) ∨ (e = 0 ∧ e1 = 0 ∧ e2 = 0 ∧ b = n2 - n1 ∧ h = i ∧ (h = 0 → 0 ≤ p ∧ p ≤ 5400 ∧ 0 ≤ q ∧ q ≤ 5400 ∧ q - p = b))) := by
  obtain ⟨h0, h1⟩ := inR_iff.1 hr
  have hso := (ok.spot s hs).sh
  have hmo : ((t.spot s).sh.more r).Ok := hso.more h0 (by omega) (by omega)
  have hok := setSh_ok ok hs hmo
  have hs2 : s < (t.setSh s ((t.spot s).sh.more r)).ns := hs
  obtain ⟨n1, e1, n2, e2, c1, c2, a1, b1, a2, b2, hc⟩ := next_cases hso hr (by omega)
  have hq1 : t.cheap s = (n1, e1) := c1
  have hq2 : (t.setSh s ((t.spot s).sh.more r)).cheap s = (n2, e2) := (setSh_cheap t s _).trans c2
  refine ⟨n1, e1, n2, e2, ((t.spot s).sh.nextOut r).1, ((t.spot s).sh.nextOut r).2, (t.wholeOut (s : Int)).1, (t.wholeOut (s : Int)).2, ((t.setSh s ((t.spot s).sh.more r)).wholeOut (s : Int)).1, ((t.setSh s ((t.spot s).sh.more r)).wholeOut (s : Int)).2, (price_cheap ok hs).trans hq1, (price_cheap hok hs2).trans hq2, rfl, rfl, rfl, a1, b1, a2, b2, ?_⟩
  rcases hc with ⟨rfl, hn⟩ | ⟨rfl, rfl, hn⟩ | ⟨rfl, rfl, hn⟩
  · rw [hn]; exact .inl ⟨rfl, rfl⟩
  · rw [hn]; exact .inr (.inl ⟨rfl, rfl, rfl⟩)
  · rw [hn]
    refine .inr (.inr ⟨rfl, rfl, rfl, rfl, ?_⟩)
    have k1 : t.canB s = true := by unfold Pt.canB; rw [hq1]; rfl
    have k2 : (t.setSh s ((t.spot s).sh.more r)).canB s = true := by unfold Pt.canB; rw [hq2]; rfl
    have hke : (t.setSh s ((t.spot s).sh.more r)).knowErr true = t.knowErr true := by
      unfold Pt.knowErr
      rw [Pt.askErr_ok ok, Pt.askErr_ok hok]
      rfl
    unfold Pt.wholeOut
    rw [hasB_in hs, hasB_in hs2, hke]
    by_cases h9 : t.knowErr true = 0
    · rw [if_pos h9, if_pos h9, Int.toNat_natCast, if_pos k1, if_pos k2]
      have w1 := whole_bd ok hs
      have w2 := whole_bd hok hs2
      refine ⟨rfl, fun _ => ⟨w1.1, w1.2, w2.1, w2.2, ?_⟩⟩
      have x1 : t.whole s = n1 + t.askedTo s t.m := by unfold Pt.whole; rw [hq1]
      have x2 : (t.setSh s ((t.spot s).sh.more r)).whole s = n2 + t.askedTo s t.m := by
        unfold Pt.whole
        rw [hq2, setSh_asked]
        rfl
      show (t.setSh s ((t.spot s).sh.more r)).whole s - t.whole s = n2 - n1
      omega
    · rw [if_neg h9, if_neg h9]
      exact ⟨rfl, fun h => absurd h h9⟩
end Go.Proofs.YthnojgdckkdcgaaGreatDoor

namespace Go.Proofs.YthnojgdckkdcgaaGreatDoor
open Go.RowKit Go.Sort
theorem owns_put {w : World} {base : Nat} {e : TypeId} {size g n cap : Nat} {xs : List Value} (h : w.ownsRow base e size (.slice (some ⟨g, 0, none⟩) n cap) n xs) (j : Nat) (u : Value) : (w.setCell ⟨g, j, none⟩ u).ownsRow base e size (.slice (some ⟨g, 0, none⟩) n cap) n (xs.set j u) := by
  obtain ⟨h1, h2⟩ := h
  rcases h2 with ⟨e0, _⟩ | ⟨g', cap', cur, e', h3, h4, h5, h6, h7, h8⟩
  · cases e0
  · injection e' with e1 _ e3
    injection e1 with e1
    injection e1 with e1
    subst e1 e3
    refine ⟨by rw [List.length_set]; exact h1, .inr ⟨g, cap, cur.setIfInBounds j u, rfl, h3, TBox.set (show TBox w g e cur from h4) j u, h5, h6, by simp [h7], ?_⟩⟩
    rw [Array.toList_setIfInBounds, ← h8, List.take_set]
theorem owns_box {w : World} {base : Nat} {e : TypeId} {size g n cap : Nat} {xs : List Value} (h : w.ownsRow base e size (.slice (some ⟨g, 0, none⟩) n cap) n xs) : base ≤ g ∧ ∃ cur, TBox w g e cur ∧ cur.toList.take (n * size) = xs := by
  rcases h.2 with ⟨e0, _⟩ | ⟨g', cap', cur, e', h3, h4, h5, h6, h7, h8⟩
  · cases e0
  · injection e' with e1 _ e3
    injection e1 with e1
    injection e1 with e1
    subst e1 e3
    exact ⟨h3, cur, h4, h8⟩
end Go.Proofs.YthnojgdckkdcgaaGreatDoor

namespace Go.Proofs.YthnojgdckkdcgaaGreatDoor
open Go.RowKit Go.Sort
def put7 (us : List Value) (j : Nat) (c0 c1 c2 c3 c4 c5 c6 : Value) : List Value := ((((((us.set j c0).set (j + 1) c1).set (j + 2) c2).set (j + 3) c3).set (j + 4) c4).set (j + 5) c5).set (j + 6) c6
theorem put7_cons (a : Value) (us : List Value) (j : Nat) (c0 c1 c2 c3 c4 c5 c6 : Value) : put7 (a :: us) (j + 1) c0 c1 c2 c3 c4 c5 c6 = a :: put7 us j c0 c1 c2 c3 c4 c5 c6 := by
  unfold put7
  rw [show j + 1 + 1 = (j + 1) + 1 from rfl, show j + 1 + 2 = (j + 2) + 1 by omega, show j + 1 + 3 = (j + 3) + 1 by omega, show j + 1 + 4 = (j + 4) + 1 by omega, show j + 1 + 5 = (j + 5) + 1 by omega, show j + 1 + 6 = (j + 6) + 1 by omega]
  simp only [List.set_cons_succ]
theorem flat_put7 (c0 c1 c2 c3 c4 c5 c6 : Value) : ∀ (L : List (List Value)) (i : Nat), (∀ c, c ∈ L → c.length = 7) → i < L.length → put7 L.flatten (i * 7) c0 c1 c2 c3 c4 c5 c6 = (L.set i [c0, c1, c2, c3, c4, c5, c6]).flatten
  | [], i, _, h => absurd h (Nat.not_lt_zero _)
  | c :: L, 0, hl, _ => by
    match c, hl c (by simp) with
    | [a0, a1, a2, a3, a4, a5, a6], _ => rfl
  | c :: L, i + 1, hl, hi => by
    have ih := flat_put7 c0 c1 c2 c3 c4 c5 c6 L i (fun c h => hl c (List.mem_cons_of_mem _ h)) (Nat.lt_of_succ_lt_succ hi)
    match c, hl c (by simp) with
    | [a0, a1, a2, a3, a4, a5, a6], _ =>
      show put7 (a0 :: a1 :: a2 :: a3 :: a4 :: a5 :: a6 :: L.flatten) ((i + 1) * 7) c0 c1 c2 c3 c4 c5 c6 = a0 :: a1 :: a2 :: a3 :: a4 :: a5 :: a6 :: (L.set i [c0, c1, c2, c3, c4, c5, c6]).flatten
      rw [show (i + 1) * 7 = i * 7 + 1 + 1 + 1 + 1 + 1 + 1 + 1 by omega, put7_cons, put7_cons, put7_cons, put7_cons, put7_cons, put7_cons, put7_cons, ih]
theorem SpRows.put {w : World} {f f' : Nat → Spot} {n i : Nat} {us : List Value} {c0 c1 c2 c3 c4 c5 c6 : Value} (h : SpRows w f n us) (hi : i < n) (he : ∀ k, k ≠ i → f' k = f k) (hc : SpK w [c0, c1, c2, c3, c4, c5, c6] (f' i)) : SpRows w f' n (put7 us (i * 7) c0 c1 c2 c3 c4 c5 c6) := by
  obtain ⟨L, rfl, hl, hk⟩ := h
  refine ⟨L.set i [c0, c1, c2, c3, c4, c5, c6], flat_put7 _ _ _ _ _ _ _ L i (fun c hc => ?_) (by omega), by rw [List.length_set]; exact hl, fun k cs hcs => ?_⟩
  · obtain ⟨k, hk2⟩ := List.mem_iff_getElem?.1 hc
    exact (hk k c hk2).len
  · rw [List.getElem?_set] at hcs
    by_cases e : i = k
    · subst e
      rw [if_pos rfl] at hcs
      split at hcs
      · obtain rfl := Option.some.inj hcs
        exact hc
      · cases hcs
    · rw [if_neg e] at hcs
      rw [he k fun h => e h.symm]
      exact hk k cs hcs
/-- a copied town, one spot of which is stored anew -/
theorem CopyAt9.putSpot {w w' : World} {base : Nat} {vW vF vO vP vS : Value} {t : Pt} {i : Nat} {S : Sh} {us : List Value} {c0 c1 c2 c3 c4 c5 c6 : Value} (h : CopyAt9 w base vW vF vO vP vS t) (hk : Kept [3, 34, 190, 101, 27] w w') (hrows : SpRows w t.spot t.ns us) (hi : i < t.ns) (hown : w'.ownsRow base 71 7 vS t.ns (put7 us (i * 7) c0 c1 c2 c3 c4 c5 c6)) (hl : SpK w' [c0, c1, c2, c3, c4, c5, c6] { t.spot i with sh := S }) : CopyAt9 w' base vW vF vO vP vS (t.setSh i S) :=
  ⟨h.q.kept hk (by simp) (by simp) (by simp) (by simp), owns_kept h.old hk (by simp), owns_kept h.pence hk (by simp), _, hown, (hrows.kept hk (by simp) (by simp) (by simp)).put hi (fun k e => setSh_other t S e) (by rw [setSh_at]; exact hl)⟩
/-- a spot of a copied town: where it lies, and what its cells hold -/
theorem own_spot {w : World} {base : Nat} {As : Option Addr} {n cap : Nat} {us : List Value} {f : Nat → Spot} {i : Nat} (hown : w.ownsRow base 71 7 (.slice As n cap) n us) (h : SpRows w f n us) (hi : i < n) : ∃ (g : Nat) (Ar Af Aw : Option Addr) (cr cf cw : Nat), As = some ⟨g, 0, none⟩ ∧ base ≤ g ∧ (∃ cur, TBox w g 71 cur) ∧ SpK w [.int .i64 (f i).at_, .slice Ar (f i).sh.nr cr, .slice Af (f i).sh.nf cf, .int .i64 (f i).sh.deep, .int .i64 (f i).sh.haul, .int .i64 (f i).sh.rest, .slice Aw (f i).fl.n cw] (f i) ∧
    w.cell? ⟨g, i * 7, none⟩ = some (.int .i64 (f i).at_) ∧ w.cell? ⟨g, i * 7 + 1, none⟩ = some (.slice Ar (f i).sh.nr cr) ∧ w.cell? ⟨g, i * 7 + 2, none⟩ = some (.slice Af (f i).sh.nf cf) ∧ w.cell? ⟨g, i * 7 + 3, none⟩ = some (.int .i64 (f i).sh.deep) ∧ w.cell? ⟨g, i * 7 + 4, none⟩ = some (.int .i64 (f i).sh.haul) ∧ w.cell? ⟨g, i * 7 + 5, none⟩ = some (.int .i64 (f i).sh.rest) ∧ w.cell? ⟨g, i * 7 + 6, none⟩ = some (.slice Aw (f i).fl.n cw) := by
  rcases hown.2 with ⟨_, h0⟩ | ⟨g, cap', cur, e, hb, ht, h3, h4, h5, h6⟩
  · omega
  · injection e with e0 _ e2
    subst e0 e2
    obtain ⟨L, e1, hl, hL⟩ := h
    have h7 : ∀ c ∈ L, c.length = 7 := fun c hc => by
      obtain ⟨i, hi⟩ := List.getElem?_of_mem hc
      exact (hL i c hi).len
    obtain ⟨c, hci⟩ : ∃ c, L[i]? = some c := ⟨_, List.getElem?_eq_getElem (by omega)⟩
    have hg := flat_get h7 hci
    have hk := hL i c hci
    have hk2 := hk
    obtain ⟨Ar, Af, cr, cf, u, rfl, h1, h2, h8⟩ := hk2
    obtain ⟨Aw, cw, rfl, hw⟩ := h8.rows
    have cell : ∀ j v, j < 7 → [.int .i64 (f i).at_, .slice Ar (f i).sh.nr cr, .slice Af (f i).sh.nf cf, .int .i64 (f i).sh.deep, .int .i64 (f i).sh.haul, .int .i64 (f i).sh.rest, .slice Aw (f i).fl.n cw][j]? = some v → w.cell? ⟨g, i * 7 + j, none⟩ = some v := fun j v hj hv => by
      have h8 := (hg j hj).trans hv
      rw [← e1, ← h6, List.getElem?_take] at h8
      split at h8
      · exact ((show TBox w g _ cur from ht).cell _).trans (by simpa using h8)
      · cases h8
    exact ⟨g, Ar, Af, Aw, cr, cf, cw, rfl, hb, ⟨cur, ht⟩, hk, cell 0 _ (by omega) rfl, cell 1 _ (by omega) rfl, cell 2 _ (by omega) rfl, cell 3 _ (by omega) rfl, cell 4 _ (by omega) rfl, cell 5 _ (by omega) rfl, cell 6 _ (by omega) rfl⟩
/-- a spot that came in: where it lies, and what its cells hold -/
def SpotC (w : World) (b o : Nat) (Ar Af Ax : Option Addr) (cr cf cx : Nat) (x : Spot) : Prop := b < w.heap.size ∧ ShAt w Ar Af x.sh ∧ w.cell? ⟨b, o, none⟩ = some (.int .i64 x.at_) ∧ w.cell? ⟨b, o + 1, none⟩ = some (.slice Ar x.sh.nr cr) ∧ w.cell? ⟨b, o + 2, none⟩ = some (.slice Af x.sh.nf cf) ∧ w.cell? ⟨b, o + 3, none⟩ = some (.int .i64 x.sh.deep) ∧ w.cell? ⟨b, o + 4, none⟩ = some (.int .i64 x.sh.haul) ∧ w.cell? ⟨b, o + 5, none⟩ = some (.int .i64 x.sh.rest) ∧ w.cell? ⟨b, o + 6, none⟩ = some (.slice Ax x.fl.n cx)
theorem SpotC.mono {w w' : World} {b o : Nat} {Ar Af Ax : Option Addr} {cr cf cx : Nat} {x : Spot} (h : SpotC w b o Ar Af Ax cr cf cx x) (hb : Below w.heap.size w w') : SpotC w' b o Ar Af Ax cr cf cx x := by
  obtain ⟨hlt, h0, h1, h2, h3, h4, h5, h6, h7⟩ := h
  exact ⟨Nat.lt_of_lt_of_le hlt hb.size, h0.mono hb, (hb.cell (p := ⟨b, _, none⟩) hlt).trans h1, (hb.cell (p := ⟨b, _, none⟩) hlt).trans h2, (hb.cell (p := ⟨b, _, none⟩) hlt).trans h3, (hb.cell (p := ⟨b, _, none⟩) hlt).trans h4, (hb.cell (p := ⟨b, _, none⟩) hlt).trans h5, (hb.cell (p := ⟨b, _, none⟩) hlt).trans h6, (hb.cell (p := ⟨b, _, none⟩) hlt).trans h7⟩
end Go.Proofs.YthnojgdckkdcgaaGreatDoor

namespace Go.Proofs.YthnojgdckkdcgaaGreatDoor
open Go.RowKit Go.Sort
/-- a goal that no step of a walk opens -/
structure Halt9 (p : Prop) : Prop where
  out : p
theorem halt_store {P : Program} {ops : Array Oper} {Q : Exit → Act → World → Prop} {rest : List Oper} {a : Act} {w : World} {d : Option Tmp} {t : TypeId} {p v : Operand} {ty : TypeId} {g : Option (Nat × Bool)} {at_ : String} {af : Array Edge} (h : Halt9 (wpList P ops Q (Oper.mk d (Op.store t p v) ty at_ af g :: rest) a w)) : wpList P ops Q (Oper.mk d (Op.store t p v) ty at_ af g :: rest) a w := h.out
def set7 (w : World) (g j : Nat) (c0 c1 c2 c3 c4 c5 c6 : Value) : World := ((((((w.setCell ⟨g, j, none⟩ c0).setCell ⟨g, j + 1, none⟩ c1).setCell ⟨g, j + 2, none⟩ c2).setCell ⟨g, j + 3, none⟩ c3).setCell ⟨g, j + 4, none⟩ c4).setCell ⟨g, j + 5, none⟩ c5).setCell ⟨g, j + 6, none⟩ c6
theorem set7_kept {l : List TypeId} {w : World} {g : Nat} {cs : Array Value} {t : TypeId} (hb : TBox w g t cs) (ht : t ∉ l) (j : Nat) (c0 c1 c2 c3 c4 c5 c6 : Value) : Kept l w (set7 w g j c0 c1 c2 c3 c4 c5 c6) :=
  have h1 := hb.set j c0
  have h2 := h1.set (j + 1) c1
  have h3 := h2.set (j + 2) c2
  have h4 := h3.set (j + 3) c3
  have h5 := h4.set (j + 4) c4
  have h6 := h5.set (j + 5) c5
  ((((((Kept.set hb ht j c0).trans (Kept.set h1 ht (j + 1) c1)).trans (Kept.set h2 ht (j + 2) c2)).trans (Kept.set h3 ht (j + 3) c3)).trans (Kept.set h4 ht (j + 4) c4)).trans (Kept.set h5 ht (j + 5) c5)).trans (Kept.set h6 ht (j + 6) c6)
theorem set7_below {N : Nat} {w0 w : World} (h : Below N w0 w) {g : Nat} (hg : N ≤ g) (j : Nat) (c0 c1 c2 c3 c4 c5 c6 : Value) : Below N w0 (set7 w g j c0 c1 c2 c3 c4 c5 c6) :=
  Below.setCell (p := ⟨g, _, none⟩) (Below.setCell (p := ⟨g, _, none⟩) (Below.setCell (p := ⟨g, _, none⟩) (Below.setCell (p := ⟨g, _, none⟩) (Below.setCell (p := ⟨g, _, none⟩) (Below.setCell (p := ⟨g, _, none⟩) (Below.setCell (p := ⟨g, _, none⟩) h hg c0) hg c1) hg c2) hg c3) hg c4) hg c5) hg c6
theorem set7_other {w : World} {b g : Nat} {t : TypeId} {cs : Array Value} (h : TBox w b t cs) (hne : g ≠ b) (j : Nat) (c0 c1 c2 c3 c4 c5 c6 : Value) : TBox (set7 w g j c0 c1 c2 c3 c4 c5 c6) b t cs :=
  ((((((h.other hne _ _).other hne _ _).other hne _ _).other hne _ _).other hne _ _).other hne _ _).other hne _ _
theorem set7_owns {w : World} {base : Nat} {e : TypeId} {size g n cap : Nat} {xs : List Value} (h : w.ownsRow base e size (.slice (some ⟨g, 0, none⟩) n cap) n xs) (j : Nat) (c0 c1 c2 c3 c4 c5 c6 : Value) : (set7 w g j c0 c1 c2 c3 c4 c5 c6).ownsRow base e size (.slice (some ⟨g, 0, none⟩) n cap) n (put7 xs j c0 c1 c2 c3 c4 c5 c6) :=
  owns_put (owns_put (owns_put (owns_put (owns_put (owns_put (owns_put h j c0) (j + 1) c1) (j + 2) c2) (j + 3) c3) (j + 4) c4) (j + 5) c5) (j + 6) c6
theorem CopyAt9.set7 {w : World} {base : Nat} {vW vF vO vP : Value} {t : Pt} {i g cap : Nat} {S : Sh} {us : List Value} {c0 c1 c2 c3 c4 c5 c6 : Value} (h : CopyAt9 w base vW vF vO vP (.slice (some ⟨g, 0, none⟩) t.ns cap) t) (hown : w.ownsRow base 71 7 (.slice (some ⟨g, 0, none⟩) t.ns cap) t.ns us) (hrows : SpRows w t.spot t.ns us) (hi : i < t.ns) (hl : SpK w [c0, c1, c2, c3, c4, c5, c6] { t.spot i with sh := S }) : CopyAt9 (set7 w g (i * 7) c0 c1 c2 c3 c4 c5 c6) base vW vF vO vP (.slice (some ⟨g, 0, none⟩) t.ns cap) (t.setSh i S) := by
  obtain ⟨_, cur, hb, _⟩ := owns_box hown
  exact h.putSpot (set7_kept hb (by decide) _ _ _ _ _ _ _ _) hrows hi (set7_owns hown _ _ _ _ _ _ _ _) (hl.kept (set7_kept (l := [3, 34, 190]) hb (by decide) _ _ _ _ _ _ _ _) (by simp) (by simp) (by simp))
end Go.Proofs.YthnojgdckkdcgaaGreatDoor

namespace Go.Proofs.YthnojgdckkdcgaaGreatDoor
open Go.RowKit Go.Sort Go.ChangeShapes Go.WideShapes Go.ChangeAt Go.Deep
/-- the feet of each of the first n spots of a row fit their cap -/
def FeetAt (w : World) (A : Option Addr) (n : Nat) : Prop := ∀ b o, A = some ⟨b, o, none⟩ → ∀ i, i < n → ∃ Af nf cf, w.cell? ⟨b, o + i * 7 + 2, none⟩ = some (.slice Af nf cf) ∧ SliceIn Af nf cf
theorem FeetAt.mono {w w' : World} {A : Option Addr} {n : Nat} (h : FeetAt w A n) (hb : Below w.heap.size w w') : FeetAt w' A n := fun b o e i hi => by
  obtain ⟨Af, nf, cf, h1, h2⟩ := h b o e i hi
  exact ⟨Af, nf, cf, (hb.cell (p := ⟨b, _, none⟩) (World.block_lt_of_cell? w _ h1)).trans h1, h2⟩
section
variable {H : Type} {enc : TypeId × Value → H} {P : Program} {w : World} {base b0 : Nat} {r : Reach} {sp : Nat → Bool} {held : Bool}
theorem sh_feet {t tr ti tI : TypeId} {f0 f1 f2 f3 f4 : Field} {fuel : Nat} {cs : List Value} {x : DataW H × List MemPlace}
    (ht : P.underlying t = some (.struct #[f0, f1, f2, f3, f4])) (hone : oneCellFields P #[f0, f1, f2, f3, f4] = true && (f0.type == tr && f1.type == ti && f2.type == tI && f3.type == tI && f4.type == tI) && P.cellsOf t == 5)
    (hF : ∀ (fuel : Nat) (cs : List Value) (x : DataW H × List MemPlace), DataW.trod enc P w base sp held fuel ti cs = some x → ∃ A n c g, cs = [.slice A n c] ∧ IntsAt w A n g ∧ SliceIn A n c)
    (h : DataW.trod enc P w base sp held fuel t cs = some x) : ∃ Af nf cf, cs[1]? = some (.slice Af nf cf) ∧ SliceIn Af nf cf := by
  simp only [Bool.and_eq_true, beq_iff_eq, decide_eq_true_eq] at hone
  obtain ⟨⟨ho, ⟨⟨⟨e0, e1⟩, e2⟩, e3⟩, e4⟩, hC⟩ := hone
  obtain ⟨xs, n, _, hx, hlen, hxl, hg⟩ := DataW.trod_struct ht h
  obtain ⟨o1, k1⟩ := hone_of ho 1 f1 rfl
  match cs, hlen.trans hC, xs, hxl with
  | [c0, c1, c2, c3, c4], _, [y0, y1, y2, y3, y4], _ =>
    have g1 := hg 1 f1 rfl
    rw [o1, k1, e1] at g1
    simp only [List.drop_zero, List.take_succ_cons, List.take_zero, List.drop_succ_cons, List.getElem?_cons_zero, List.getElem?_cons_succ] at g1
    obtain ⟨B, nf, cf, foot, h1, _, hf2⟩ := hF _ _ _ g1
    injection h1 with h1
    subst h1
    exact ⟨B, nf, cf, rfl, hf2⟩
theorem spot_feet {t ts : TypeId} {f0 f1 f2 : Field} {fuel : Nat} {cs : List Value} {x : DataW H × List MemPlace}
    (ht : P.underlying t = some (.struct #[f0, f1, f2])) (hone : (f1.offset == 1 && P.cellsOf f1.type == 5 && f1.type == ts && P.cellsOf t == 7) = true)
    (hS : ∀ (fuel : Nat) (cs : List Value) (x : DataW H × List MemPlace), DataW.trod enc P w base sp held fuel ts cs = some x → ∃ Af nf cf, cs[1]? = some (.slice Af nf cf) ∧ SliceIn Af nf cf)
    (h : DataW.trod enc P w base sp held fuel t cs = some x) : ∃ Af nf cf, cs[2]? = some (.slice Af nf cf) ∧ SliceIn Af nf cf := by
  simp only [Bool.and_eq_true, beq_iff_eq] at hone
  obtain ⟨⟨⟨o1, k1⟩, e1⟩, hC⟩ := hone
  obtain ⟨xs, n, _, hx, hlen, hxl, hg⟩ := DataW.trod_struct ht h
  match cs, hlen.trans hC, xs, hxl with
  | [c0, c1, c2, c3, c4, c5, c6], _, [y0, y1, y2], _ =>
    have g1 := hg 1 f1 rfl
    rw [o1, k1, e1] at g1
    simp only [List.drop_zero, List.take_succ_cons, List.take_zero, List.drop_succ_cons, List.getElem?_cons_zero, List.getElem?_cons_succ] at g1
    obtain ⟨Af, nf, cf, h1, h2⟩ := hS _ _ _ g1
    exact ⟨Af, nf, cf, h1, h2⟩
theorem spots_feet {t e : TypeId} {fuel : Nat} {cs : List Value} {x : DataW H × List MemPlace} (ht : P.underlying t = some (.slice e)) (hC : P.cellsOf e = 7)
    (hS : ∀ (fuel : Nat) (cs : List Value) (x : DataW H × List MemPlace), DataW.trod enc P w base sp held fuel e cs = some x → ∃ Af nf cf, cs[2]? = some (.slice Af nf cf) ∧ SliceIn Af nf cf)
    (h : DataW.trod enc P w base sp held fuel t cs = some x) : ∃ A n c, cs = [.slice A n c] ∧ FeetAt w A n := by
  rcases open_slice ht h with ⟨h0, _⟩ | ⟨a, len, cap, m, n, D, Pl, hcs, hb, hl, hm, hmm, hx, hel⟩
  · exact ⟨none, 0, 0, h0, fun b o e => by cases e⟩
  · have hlm : len ≤ m := by rw [hmm]; split <;> omega
    rw [hC] at hel
    refine ⟨_, len, cap, hcs, fun b o e i hi => ?_⟩
    obtain rfl := Option.some.inj e
    obtain ⟨cs', h1, h2⟩ := hel i (by omega)
    obtain ⟨_, hlen, hcell⟩ := World.cells?_some h1
    obtain ⟨Af, nf, cf, h3, h4⟩ := hS _ _ _ h2
    have h5 := hcell 2 (by omega)
    rw [add_none, add_none] at h5
    exact ⟨Af, nf, cf, h5.trans h3, h4⟩
theorem place_feet' {l : Array Value} {d : DataW H} {p : List MemPlace} {t ts : TypeId} {f0 f1 f2 f3 f4 f5 f6 : Field}
    (ht : P.underlying t = some (.struct #[f0, f1, f2, f3, f4, f5, f6])) (hone : (f3.offset == 5 && P.cellsOf f3.type == 1 && f3.type == ts && P.cellsOf t == 9) = true)
    (hS : ∀ (fuel : Nat) (cs : List Value) (x : DataW H × List MemPlace), DataW.trod enc P w base sp held fuel ts cs = some x → ∃ A n c, cs = [.slice A n c] ∧ FeetAt w A n)
    (hv : Value.okWide P w r b0 t (.agg l)) (h : DataW.Trod enc P w base sp held t (.agg l) d p) {As : Option Addr} {k c : Nat} (h5 : l.toList[5]? = some (.slice As k c)) : FeetAt w As k := by
  simp only [Bool.and_eq_true, beq_iff_eq] at hone
  obtain ⟨⟨⟨o3, k3⟩, e3⟩, hC⟩ := hone
  obtain ⟨l2, e, hsz⟩ := okWide_struct ht hv
  obtain rfl := Value.agg.inj e
  obtain ⟨l⟩ := l
  obtain ⟨fuel, hf'⟩ := h
  obtain ⟨xs, n, _, hx, hlen, hxl, hg⟩ := DataW.trod_struct ht hf'
  match l, hsz.trans hC, xs, hxl, h5 with
  | [c0, c1, c2, c3, c4, c5, c6, c7, c8], _, [y0, y1, y2, y3, y4, y5, y6], _, h5 =>
    have g3 := hg 3 f3 rfl
    rw [o3, k3, e3] at g3
    simp only [Value.cells, List.drop_zero, List.take_succ_cons, List.take_zero, List.drop_succ_cons, List.getElem?_cons_zero, List.getElem?_cons_succ] at g3
    obtain ⟨A, n2, c9, h3, hs⟩ := hS _ _ _ g3
    injection h3 with h3
    have h5 : c5 = .slice As k c := by simpa using h5
    rw [h3] at h5
    injection h5 with q1 q2 q3
    subst q1 q2
    exact hs
end
set_option maxRecDepth 100000 in
theorem place_feet {H : Type} {enc : TypeId × Value → H} {W : World} {base b0 : Nat} {r : Reach} {sp : Nat → Bool} {held : Bool} {l : Array Value} {d : DataW H} {p : List MemPlace} (hv : Value.okWide Tryz.prog W r b0 62 (.agg l)) (h : DataW.Trod enc Tryz.prog W base sp held 62 (.agg l) d p) {As : Option Addr} {k c : Nat} (h5 : l.toList[5]? = some (.slice As k c)) : FeetAt W As k :=
  place_feet' Tryz.underlying62 (by kernel_rfl) (fun _ _ _ h => spots_feet Tryz.underlying60 (by kernel_rfl) (fun _ _ _ h => spot_feet Tryz.underlying71 (by kernel_rfl) (fun _ _ _ h => sh_feet (tr := 66) (tI := 3) Tryz.underlying68 (by kernel_rfl) (fun _ _ _ h => ints_in Tryz.underlying34 Tryz.underlying3 (by kernel_rfl) h) h) h) h) hv h h5
end Go.Proofs.YthnojgdckkdcgaaGreatDoor

