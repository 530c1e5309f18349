/- Parts joined. -/
import Derived.Test.YtjpfdhhiofjpbaaGreatDoorNPO
import Derived.Test.YtjpfdhhiofjpbaaGreatDoorNPK
import Derived.Test.YtjpfdhhiofjpbaaGreatDoorNPE
import Derived.Test.YtjpfdhhiofjpbaaGreatDoorNPH
import Derived.Test.YtjpfdhhiofjpbaaGreatDoorNPJ
import Derived.Test.YtjpfdhhiofjpbaaGreatDoorNPN
set_option linter.unusedSimpArgs false
set_option linter.unusedVariables false
/- The walk of Loosen of the package places. Conditions: lengths are Go's; the listed tables hold what they hold. -/
namespace Go.Proofs.YtjpfdhhiofjpbaaGreatDoor
open Go.RowKit Go.Sort Go.Shelf
attribute [local go_sem] Oper.semAt_some
theorem harmed_ok {t : Pt} (ok : t.Ok) {h : Nat} (hh : h ≤ 99) : (t.harmed (h : Int)).Ok := ⟨ok.q, ok.no, ok.np, ok.ns, ok.far, by show 0 ≤ (h : Int) ∧ (h : Int) ≤ 99; omega, ok.many, ok.old, ok.pence, ok.spot⟩
theorem harmed_small {t : Pt} (hs : t.Small) (h : Int) : (t.harmed h).Small := ⟨hs.q, hs.no, hs.np, hs.ns, hs.spot⟩
theorem StreetAt.harm {w : World} {C : Nat} {Aw Af Ao Ap As : Option Addr} {cw cf co cp cs : Nat} {t : Pt} {Al : Option Addr} {cl : Nat} (h : StreetAt w C Aw Af Ao Ap As cw cf co cp cs t Al cl) (x : Int) (hp : PAt (w.setCell ⟨C, 7, none⟩ (.int .i64 x)) Aw Af Ao Ap As t) : StreetAt (w.setCell ⟨C, 7, none⟩ (.int .i64 x)) C Aw Af Ao Ap As cw cf co cp cs (t.harmed x) Al cl :=
  have hb : ∀ k, k ≠ C → (w.setCell ⟨C, 7, none⟩ (.int .i64 x)).heap[k]? = w.heap[k]? := fun k hk => Below.heap_setCell w ⟨C, 7, none⟩ _ k hk
  ⟨by have := h.box.set 7 (.int .i64 x); simpa [Pt.harmed] using this, by
    rcases h.left with h0 | ⟨b, o, hA, hlt, hc⟩
    · exact .inl h0
    · rcases h.sep with h0 | hs
      · exact .inl h0
      · exact .inr ⟨b, o, hA, by simpa [World.setCell] using hlt, fun j hj => (World.cell?_of_block (a := ⟨b, _, none⟩) (hb b (hs _ hA))).trans (hc j hj)⟩, ⟨hp.q, hp.old, hp.pence, hp.spots⟩, h.sep⟩
theorem ownFrom_defs {β : Type} (w0 : World) : OwnFrom w0.heap.size (fun (_ : β) W => ∀ D : Nat, w0.heap[D]? = some (.deferred (some [])) → W.heap[D]? = some (.deferred (some []))) :=
  fun _ X Y row hs hg hr D hD => by
    have h1 := (Array.getElem?_eq_some_iff.1 hD).1
    have h2 := (Array.getElem?_eq_some_iff.1 (hs D hD)).1
    exact (hg.block D h2 (fun e => by have := (hr D e.symm).1; omega)).trans (hs D hD)
theorem marks_push {B : Nat} {w W : World} {ds : List Deferred} (h : Marks B w ds) (h' : Marks B W ds) {D : Nat} (hB : B ≤ D) (hD : w.heap.size ≤ D) (hW : W.heap[D]? = some (.deferred (some []))) : Marks B W ({ target := .collected D, args := #[] } :: ds) := by
  have hno : ∀ {ds : List Deferred}, Marks B w ds → ∀ d' ∈ ds, d'.target ≠ .collected D := by
    intro ds
    induction ds with
    | nil => exact fun _ d' h => by cases h
    | cons d ds ih =>
      rintro ⟨⟨D', h1, _, h3, _⟩, h5⟩ d' hd e
      rcases List.mem_cons.1 hd with rfl | hd
      · subst h1
        injection e with e
        have := (Array.getElem?_eq_some_iff.1 h3).1
        omega
      · exact ih h5 d' hd e
  exact ⟨⟨D, rfl, hB, hW, hno h⟩, h'⟩
set_option maxHeartbeats 8000000 in
set_option maxRecDepth 100000 in
theorem loosenP_any (Aw Af Ao Ap As : Option Addr) (cw cf co cp cs : Nat) (t : Pt) (w : World) (hs : t.Small) (hT : PAt w Aw Af Ao Ap As t) (hB : TabAt w) (hN : NoneAt w) :
    Calls Tryz.prog 37 #[.agg #[.int .i64 t.q.wells, .slice Aw t.q.nw cw, .slice Af t.q.nf cf, .slice Ao t.no co, .slice Ap t.np cp, .slice As t.ns cs, .int .i64 t.far, .int .i64 t.harm, .int .i64 t.many]] w fun e w' => e = .returned (.tuple #[.int .i64 t.loosenOut.1, .int .i64 t.loosenOut.2]) ∧ Below w.heap.size w w' := by
  have hb0 : Below w.heap.size w (((w.alloc (.cells #[.int .i64 t.q.wells, .slice Aw t.q.nw cw, .slice Af t.q.nf cf, .slice Ao t.no co, .slice Ap t.np cp, .slice As t.ns cs, .int .i64 t.far, .int .i64 t.harm, .int .i64 t.many] 29)).alloc (.cells #[.int .i64 0] 3)).alloc (.cells #[.int .i64 0] 33)) := bAlloc (bAlloc (bAlloc (Below.refl _ _) _) _) _
  have HT := Lib.hid (hT.mono hb0)
  have HTB := Lib.hid (hB.mono hb0)
  have HNA := Lib.hid (hN.mono hb0)
  have HTT := Lib.hid hT
  have HNN := Lib.hid hN
  have HB0 := Lib.hid hb0
  have HSM := Lib.hid hs
  obtain ⟨er, her⟩ : ∃ v, t.knowErr true = v := ⟨_, rfl⟩
  have HE := Lib.hid (show t.loosenOut = if er = 0 then (if t.loosen < 100 then ((t.loosen : Int), 0) else (0, 3)) else (0, er) by unfold Pt.loosenOut; rw [her])
  have HER := Lib.hid her
  have HR20 := Lib.hid (show TBox (((w.alloc (.cells #[.int .i64 t.q.wells, .slice Aw t.q.nw cw, .slice Af t.q.nf cf, .slice Ao t.no co, .slice Ap t.np cp, .slice As t.ns cs, .int .i64 t.far, .int .i64 t.harm, .int .i64 t.many] 29)).alloc (.cells #[.int .i64 0] 3)).alloc (.cells #[.int .i64 0] 33)) (w.heap.size + 1) 3 #[.int .i64 0] from by have := (TBox.new (w.alloc (.cells #[.int .i64 t.q.wells, .slice Aw t.q.nw cw, .slice Af t.q.nf cf, .slice Ao t.no co, .slice Ap t.np cp, .slice As t.ns cs, .int .i64 t.far, .int .i64 t.harm, .int .i64 t.many] 29)) #[.int .i64 0] 3).mono (bAlloc (Below.refl _ _) (.cells #[.int .i64 0] 33)); simpa using this)
  have HR30 := Lib.hid (show TBox (((w.alloc (.cells #[.int .i64 t.q.wells, .slice Aw t.q.nw cw, .slice Af t.q.nf cf, .slice Ao t.no co, .slice Ap t.np cp, .slice As t.ns cs, .int .i64 t.far, .int .i64 t.harm, .int .i64 t.many] 29)).alloc (.cells #[.int .i64 0] 3)).alloc (.cells #[.int .i64 0] 33)) (w.heap.size + 1 + 1) 33 #[.int .i64 0] from by have := TBox.new ((w.alloc (.cells #[.int .i64 t.q.wells, .slice Aw t.q.nw cw, .slice Af t.q.nf cf, .slice Ao t.no co, .slice Ap t.np cp, .slice As t.ns cs, .int .i64 t.far, .int .i64 t.harm, .int .i64 t.many] 29)).alloc (.cells #[.int .i64 0] 3)) #[.int .i64 0] 33; simpa using this)
  -- how the activation leaves
  have leave : ∀ (x y : Int) (tmps : Array Value) (ds : List Deferred) (W : World), tmps[2]?.getD undef = .pointer (some ⟨w.heap.size + 1, 0, none⟩) → tmps[3]?.getD undef = .pointer (some ⟨w.heap.size + 1 + 1, 0, none⟩) → Marks w.heap.size W ds → Boxed W (w.heap.size + 1) 3 (.int .i64 x) → Boxed W (w.heap.size + 1 + 1) 33 (.int .i64 y) → Below w.heap.size w W → t.loosenOut = (x, y) → LeavesInM Fence.wide 7 Tryz.prog Tryz.f37 tmps (fun e w' => e = .returned (.tuple #[.int .i64 t.loosenOut.1, .int .i64 t.loosenOut.2]) ∧ Below w.heap.size w w') ds .returning W := by
    intro x y tmps ds W h2 h3 hm hx hy hb hxy
    have hG : OwnFrom w.heap.size (fun (_ : Unit) X => Boxed X (w.heap.size + 1) 3 (.int .i64 x) ∧ Boxed X (w.heap.size + 1 + 1) 33 (.int .i64 y) ∧ Below w.heap.size w X) := OwnFrom.and ((boxed_own _ _ (fun _ => .int .i64 x)).from _) (OwnFrom.and ((boxed_own _ _ (fun _ => .int .i64 y)).from _) (ownFrom_below (Nat.le_refl _) (Nat.le_refl _)))
    refine leaves_marks (T := fun X => Boxed X (w.heap.size + 1) 3 (.int .i64 x) ∧ Boxed X (w.heap.size + 1 + 1) 33 (.int .i64 y) ∧ Below w.heap.size w X) (fun X D hB hD h => hG.putObj (s := ()) _ h hB hD rfl) (fun X h => ?_) ds W hm ⟨hx, hy, hb⟩
    have c2 := h.1.cell
    have c3 := h.2.1.cell
    exact ⟨.tuple #[.int .i64 x, .int .i64 y], by simp [results, Tryz.results37, go_sem, h2, h3, c2, c3], by rw [hxy], h.2.2⟩
  have HLV := Lib.hid leave
  clear hs hT hB hN hb0 her leave
  refine (callsIn_wide (n := 7)).1 ?_
  refine callsIn_of_wp_marks Tryz.func37 rfl trivial ?_ rfl
  simp only [Tryz.ntmps37, List.size_toArray, List.length_cons, List.length_nil, Nat.reduceAdd, Nat.reduceSub, Array.replicate_succ, Array.replicate_zero, List.push_toArray, List.append_toArray, List.nil_append, List.cons_append]
  gi_wp2
  refine ⟨trivial, (callsIn_wide.2 (openP_any Aw Af Ao Ap As cw cf co cp cs t true _ HSM.out HT.out HTB.out)).mono ?_⟩
  rintro e w1 ⟨ho, hb1⟩
  rw [HER.out] at ho
  have HB1 := Lib.hid (bTrans HB0.out hb1)
  have HR2 := Lib.hid (HR20.out.mono hb1)
  have HR3 := Lib.hid (HR30.out.mono hb1)
  have hz1 := hb1.size
  simp only [World.size_alloc] at hz1
  have r2 := HR2.out.cell 0
  have r2f := HR2.out.frozen 0
  have r2l := HR2.out.lt
  have r3 := HR3.out.cell 0
  have r3f := HR3.out.frozen 0
  have r3l := HR3.out.lt
  by_cases he : er = 0
  case neg =>
    obtain rfl := ho.1 he
    have g0 : (er != 0) = true := by simp [he]
    have HZ := Lib.hid (show t.loosenOut = (0, er) by rw [HE.out, if_neg he])
    clear ho he hb1
    gi_wp2
    refine HLV.out 0 er _ _ _ (by rfl) (by rfl) trivial ?_ ?_ ?_ HZ.out
    · exact (((show Boxed w1 (w.heap.size + 1) 3 (.int .i64 0) from HR2.out).set _).other (B' := w.heap.size + 1 + 1) (by omega) _).alloc _
    · exact (((show Boxed w1 (w.heap.size + 1 + 1) 33 (.int .i64 0) from HR3.out).other (B' := w.heap.size + 1) (by omega) _).set _).alloc _
    · exact bAlloc (Below.setCell (p := ⟨w.heap.size + 1 + 1, 0, none⟩) (Below.setCell (p := ⟨w.heap.size + 1, 0, none⟩) HB1.out (by simp <;> omega) _) (by simp <;> omega) _) _
  subst he
  obtain ⟨ok, _, _⟩ := Pt.knowErr_zero HER.out
  obtain ⟨C, Al, cl, rfl, hst, hC⟩ := ho.2 rfl
  have hC := hC.1
  simp only [World.size_alloc] at hC
  have HOK := Lib.hid ok
  have HLO := Lib.hid (show t.loosenOut = if t.loosen < 100 then ((t.loosen : Int), 0) else (0, 3) by rw [HE.out, if_pos rfl])
  have hCl := hst.box.lt
  obtain ⟨c0, c1, c2, c3, c4, c5, c6, c7, c8, c9, _⟩ := hst.box.c10
  have cfz := hst.box.frozen 7
  have hbA : Below w1.heap.size (w1.setCell ⟨C, 7, none⟩ (.int .i64 0)) ((w1.setCell ⟨C, 7, none⟩ (.int .i64 0)).alloc (.cells #[.pointer (some ⟨C, 0, none⟩)] 98)) := by
    have := bAlloc (Below.refl (w1.setCell ⟨C, 7, none⟩ (.int .i64 0)).heap.size (w1.setCell ⟨C, 7, none⟩ (.int .i64 0))) (.cells #[.pointer (some ⟨C, 0, none⟩)] 98)
    simpa [World.setCell] using this
  have hbA' : Below (w1.setCell ⟨C, 7, none⟩ (.int .i64 0)).heap.size (w1.setCell ⟨C, 7, none⟩ (.int .i64 0)) ((w1.setCell ⟨C, 7, none⟩ (.int .i64 0)).alloc (.cells #[.pointer (some ⟨C, 0, none⟩)] 98)) := bAlloc (Below.refl _ _) _
  have hbS := Below.setCell (p := ⟨C, 7, none⟩) HB1.out (by show w.heap.size ≤ C; omega) (.int .i64 0)
  have hH0 : StreetAt ((w1.setCell ⟨C, 7, none⟩ (.int .i64 0)).alloc (.cells #[.pointer (some ⟨C, 0, none⟩)] 98)) C Aw Af Ao Ap As cw cf co cp cs (t.harmed ((0 : Nat) : Int)) Al cl := (hst.harm 0 (HTT.out.mono hbS)).mono hbA'
  have HH0 := Lib.hid hH0
  have HB2 := Lib.hid (bTrans hbS hbA')
  have HSB2 := Lib.hid (show TBox ((w1.setCell ⟨C, 7, none⟩ (.int .i64 0)).alloc (.cells #[.pointer (some ⟨C, 0, none⟩)] 98)) w1.heap.size 98 #[.pointer (some ⟨C, 0, none⟩)] from by have := TBox.new (w1.setCell ⟨C, 7, none⟩ (.int .i64 0)) #[.pointer (some ⟨C, 0, none⟩)] 98; simpa [World.setCell] using this)
  have HRB2 := Lib.hid ((HR2.out.other (b' := C) (by omega) 7 (.int .i64 0)).mono hbA')
  have HRB3 := Lib.hid ((HR3.out.other (b' := C) (by omega) 7 (.int .i64 0)).mono hbA')
  clear hbA' hbS
  clear ho hst hb1 ok hbA hH0 r2 r2f r2l r3 r3f r3l
  gi_wp2
  clear c0 c1 c2 c3 c4 c5 c6 c7 c8 c9 cfz
  refine wpIn_loop_inv 100 (fun h a W => ∃ u0 u1 u5 u6 u7 u8 u9 u10 u11 u12 u13 u14 u15 u16 u17 u18 u19 u20 u21 u22 u23 u24 u25 u26 u27 u28 u29 u30 u31 u32 u33 u34 u35 u36 u37 u38 u39 u40 u41 ds, a = { tmps := #[u0, u1, .pointer (some ⟨w.heap.size + 1, 0, none⟩), .pointer (some ⟨w.heap.size + 1 + 1, 0, none⟩), .pointer (some ⟨w1.heap.size, 0, none⟩), u5, u6, u7, u8, u9, u10, u11, u12, u13, u14, u15, u16, u17, u18, u19, u20, u21, u22, u23, u24, u25, u26, u27, u28, u29, u30, u31, u32, u33, u34, u35, u36, u37, u38, u39, u40, u41], defers := ds } ∧ Marks w.heap.size W ds ∧ StreetAt W C Aw Af Ao Ap As cw cf co cp cs (t.harmed (h : Int)) Al cl ∧ TBox W w1.heap.size 98 #[.pointer (some ⟨C, 0, none⟩)] ∧ TBox W (w.heap.size + 1) 3 #[.int .i64 0] ∧ TBox W (w.heap.size + 1 + 1) 33 #[.int .i64 0] ∧ Below w.heap.size w W ∧ ∀ k : Nat, k < h → (t.harmed (k : Int)).anyFree = false) ?h0 ?hr
  case h0 => exact ⟨_, _, _, _, _, _, _, _, _, _, _, _, _, _, _, _, _, _, _, _, _, _, _, _, _, _, _, _, _, _, _, _, _, _, _, _, _, _, _, _, rfl, trivial, HH0.out, HSB2.out, HRB2.out, HRB3.out, HB2.out, fun k hk => absurd hk (Nat.not_lt_zero _)⟩
  case hr =>
    rintro h a wr hh ⟨u0, u1, u5, u6, u7, u8, u9, u10, u11, u12, u13, u14, u15, u16, u17, u18, u19, u20, u21, u22, u23, u24, u25, u26, u27, u28, u29, u30, u31, u32, u33, u34, u35, u36, u37, u38, u39, u40, u41, ds, rfl, hm, hst, hsb, hr2, hr3, hbel, hno⟩ K hK
    have HK := Lib.hid hK
    have HM := Lib.hid hm
    have HST := Lib.hid hst
    have HSB := Lib.hid hsb
    have HR2 := Lib.hid hr2
    have HR3 := Lib.hid hr3
    have HBL := Lib.hid hbel
    have HNO := Lib.hid hno
    obtain ⟨s0, s0l⟩ := hsb.c1
    obtain ⟨c0, c1, c2, c3, c4, c5, c6, c7, c8, c9, hCr⟩ := hst.box.c10
    have hzr := hbel.size
    have c7' : wr.cell? ⟨C, 7, none⟩ = some (.int .i64 (h : Int)) := c7
    have cfz := hst.box.frozen 7
    clear hK hm hst hsb hr2 hr3 hbel hno c0 c1 c2 c3 c4 c5 c6 c7 c8 c9
    by_cases h99 : h ≤ 99
    · have h1 : (h : Int) ≤ 99 := by omega
      have HH9 := Lib.hid h99
      have HSEQ := Lib.hid (free_seq 6 C Aw Af Ao Ap As cw cf co cp cs (t.harmed (h : Int)) Al cl wr wr (by decide) HST.out (HNN.out.mono HBL.out) (Below.refl _ _) (harmed_ok HOK.out h99) (harmed_small HSM.out _))
      gi_wp2
      refine wpIn_range_caps (gf := 104) (bnd := #[.pointer (some ⟨C, 0, none⟩)]) (lb := #[]) rfl (by decide) rfl trivial (enters_of Tryz.func104 (by kernel_rfl)) HSEQ.out below_chain (fun W l o o' hl _ _ => below_putB (Below.refl _ _) hl _) (fun _ => rfl)
        (fun pre W => pre = [] ∧ Below wr.heap.size wr W)
        (fun c pre W => c = .ret ∧ pre ≠ [] ∧ Boxed W (w.heap.size + 1) 3 (.int .i64 (h : Int)) ∧ Boxed W (w.heap.size + 1 + 1) 33 (.int .i64 0) ∧ KeepsFrom wr.heap.size wr W ∧ (∀ D : Nat, wr.heap[D]? = some (.deferred (some [])) → W.heap[D]? = some (.deferred (some []))) ∧ Below w.heap.size w W)
        ((ownFrom_pure _ (fun pre : List Int => pre = [])).and (ownFrom_below (Nat.le_refl _) (Nat.le_refl _)))
        (fun c => (ownFrom_pure _ (fun _ => c = .ret)).and ((ownFrom_pure _ (fun pre : List Int => pre ≠ [])).and (((boxed_own _ _ (fun _ => .int .i64 (h : Int))).from _).and (((boxed_own _ _ (fun _ => .int .i64 0)).from _).and ((ownFrom_keepsFrom (Nat.le_refl _)).and ((ownFrom_defs wr).and (ownFrom_below (by omega) (by omega))))))))
        ⟨rfl, Below.refl _ _⟩
        (fun x a' W => ∃ v0 v1 v5 v6 v7 v8 v9 v10 v11 v12 v13 v14 v15 v16 v17 v18 v19 v20 v21 v22 v23 v24 v25 v26 v27 v28 v29 v30 v31 v32 v33 v34 v35 v36 v37 v38 v39 v40 v41, a' = { tmps := #[v0, v1, .pointer (some ⟨w.heap.size + 1, 0, none⟩), .pointer (some ⟨w.heap.size + 1 + 1, 0, none⟩), .pointer (some ⟨w1.heap.size, 0, none⟩), v5, v6, v7, v8, v9, v10, v11, v12, v13, v14, v15, v16, v17, v18, v19, v20, v21, v22, v23, v24, v25, v26, v27, v28, v29, v30, v31, v32, v33, v34, v35, v36, v37, v38, v39, v40, v41], defers := [] })
        (fun x a' _ X Y row hs hg hr => hs) ?assign ?body ?done ?stop
      case assign =>
        rintro l pre x W K' hsz hI hK'
        simp only [encF]
        gi_wp2
        exact hK' _ _ (KeepsFrom.refl _ _) (Below.refl _ _) hI ⟨_, _, _, _, _, _, _, _, _, _, _, _, _, _, _, _, _, _, _, _, _, _, _, _, _, _, _, _, _, _, _, _, _, _, _, _, _, _, _, rfl⟩
      case body =>
        rintro l pre x a' W hsz ⟨hpre, hbel⟩ ⟨v0, v1, v5, v6, v7, v8, v9, v10, v11, v12, v13, v14, v15, v16, v17, v18, v19, v20, v21, v22, v23, v24, v25, v26, v27, v28, v29, v30, v31, v32, v33, v34, v35, v36, v37, v38, v39, v40, v41, rfl⟩ hlen
        have hsb := HSB.out.mono hbel
        have hr2 := HR2.out.mono hbel
        have hr3 := HR3.out.mono hbel
        obtain ⟨s0, s0l⟩ := hsb.c1
        have hst := HST.out.mono hbel
        have c7 : W.cell? ⟨C, 7, none⟩ = some (.int .i64 (h : Int)) := hst.box.cell 7
        have hCw := hst.box.lt
        have y0 := hr2.cell 0
        have y1 := hr2.frozen 0
        have y2 := hr2.lt
        have z0 := hr3.cell 0
        have z1 := hr3.frozen 0
        have z2 := hr3.lt
        have HB2 := Lib.hid (show Boxed W (w.heap.size + 1) 3 (.int .i64 0) from hr2)
        have HB3 := Lib.hid (show Boxed W (w.heap.size + 1 + 1) 33 (.int .i64 0) from hr3)
        have HBW := Lib.hid hbel
        clear hpre hbel hsb hr2 hr3 hst hlen
        gi_wp2
        refine ⟨((KeepsOthers.setCell _ _ _).from _).trans ((KeepsOthers.setCell _ _ _).from _), rfl, by simp, (HB2.out.set _).other (B' := w.heap.size + 1 + 1) (by omega) _, (HB3.out.other (B' := w.heap.size + 1) (by omega) _).set _, ?_, ?_, ?_⟩
        · exact (keeps_below HBW.out).trans (((KeepsOthers.setCell _ _ _).from _).trans ((KeepsOthers.setCell _ _ _).from _))
        · intro D hD
          exact (KeepsOthers.setCell _ _ _).same D _ ((KeepsOthers.setCell _ _ _).same D _ ((HBW.out.block D (Array.getElem?_eq_some_iff.1 hD).1).trans hD) rfl) rfl
        · exact Below.setCell (p := ⟨w.heap.size + 1 + 1, 0, none⟩) (Below.setCell (p := ⟨w.heap.size + 1, 0, none⟩) (bTrans HBL.out HBW.out) (by simp <;> omega) _) (by simp <;> omega) _
      case done =>
        rintro D xs W hD hxs ⟨hnil, hbel⟩ hDef
        have hanyf : (t.harmed (h : Int)).anyFree = false := by
          unfold Pt.anyFree
          rw [← selTo_nil]
          exact hxs.symm.trans hnil
        have HNO2 := Lib.hid (show ∀ k : Nat, k < h + 1 → (t.harmed (k : Int)).anyFree = false from fun k hk => by
          rcases Nat.lt_or_ge k h with h1 | h1
          · exact HNO.out k h1
          · obtain rfl : k = h := by omega
            exact hanyf)
        have HM6 := Lib.hid (HM.out.push hbel (Nat.le_trans hzr hD) hD hDef)
        have HB6 := Lib.hid (bTrans HBL.out hbel)
        have HS6 := Lib.hid (HST.out.mono hbel)
        have HSB6 := Lib.hid (HSB.out.mono hbel)
        have HR26 := Lib.hid (HR2.out.mono hbel)
        have HR36 := Lib.hid (HR3.out.mono hbel)
        obtain ⟨s0, s0l⟩ := HSB6.out.c1
        have c7 : W.cell? ⟨C, 7, none⟩ = some (.int .i64 (h : Int)) := HS6.out.box.cell 7
        have cfz := HS6.out.box.frozen 7
        have hCw := HS6.out.box.lt
        have hwh : IntKind.i64.wrap ((h : Int) + 1) = ((h + 1 : Nat) : Int) := IntWalk.i64_in _ (by omega)
        clear hbel hDef hxs hnil hanyf
        gi_wp2
        have hB7 : Below w.heap.size w (W.setCell ⟨C, 7, none⟩ (.int .i64 ((h + 1 : Nat) : Int))) := Below.setCell (p := ⟨C, 7, none⟩) HB6.out (by show w.heap.size ≤ C; omega) _
        refine HK.out _ _ (by omega) ⟨_, _, _, _, _, _, _, _, _, _, _, _, _, _, _, _, _, _, _, _, _, _, _, _, _, _, _, _, _, _, _, _, _, _, _, _, _, _, _, _, rfl, HM6.out.keeps ((KeepsOthers.setCell _ _ _).from _), ?_, HSB6.out.other (b' := C) (by omega) 7 _, HR26.out.other (b' := C) (by omega) 7 _, HR36.out.other (b' := C) (by omega) 7 _, hB7, HNO2.out⟩
        exact HS6.out.harm ((h + 1 : Nat) : Int) (by have := HTT.out.mono hB7; exact ⟨this.q, this.old, this.pence, this.spots⟩)
      case stop =>
        rintro D c pre W hD hpre ⟨rfl, hne, hb2, hb3, hkf, hdf, hbel⟩ hDef
        have hany : (t.harmed (h : Int)).anyFree = true := by
          cases hc : (t.harmed (h : Int)).anyFree
          · unfold Pt.anyFree at hc
            rw [← selTo_nil] at hc
            rw [show (t.harmed (h : Int)).frees = [] from hc] at hpre
            exact absurd (List.prefix_nil.1 hpre) hne
          · rfl
        have hlo : t.loosen = h := firstFrom_eq _ 100 0 h (Nat.zero_le _) (by omega) (fun j _ hj => HNO.out j hj) (fun _ => hany)
        have HLO2 := Lib.hid (show t.loosenOut = ((h : Int), 0) by rw [HLO.out, hlo, if_pos (by omega)])
        have HM6 := Lib.hid (HM.out.keep fun D _ hD => hdf D hD)
        have HMD := Lib.hid hDef
        have HX2 := Lib.hid hb2
        have HX3 := Lib.hid hb3
        have HXB := Lib.hid hbel
        have HMM := Lib.hid (marks_push HM.out HM6.out (Nat.le_trans hzr hD) hD hDef)
        clear hb2 hb3 hkf hdf hbel hDef hany hlo hne hpre
        gi_wp2
        exact HLV.out (h : Int) 0 _ _ _ (by rfl) (by rfl) HMM.out HX2.out HX3.out HXB.out HLO2.out
    · obtain rfl : h = 100 := by omega
      have HLO2 := Lib.hid (show t.loosenOut = (0, 3) by
        have hlo : t.loosen = 100 := firstFrom_eq _ 100 0 100 (Nat.zero_le _) (Nat.le_refl _) (fun j _ hj => HNO.out j hj) (fun h => absurd h (by omega))
        rw [HLO.out, hlo]
        rfl)
      have y0 := HR2.out.cell 0
      have y1 := HR2.out.frozen 0
      have y2 := HR2.out.lt
      have z0 := HR3.out.cell 0
      have z1 := HR3.out.frozen 0
      have z2 := HR3.out.lt
      gi_wp2
      refine HLV.out 0 3 _ _ _ (by rfl) (by rfl) (HM.out.keeps (((KeepsOthers.setCell _ _ _).from _).trans ((KeepsOthers.setCell _ _ _).from _))) ?_ ?_ ?_ HLO2.out
      · exact ((show Boxed wr (w.heap.size + 1) 3 (.int .i64 0) from HR2.out).set _).other (B' := w.heap.size + 1 + 1) (by omega) _
      · exact ((show Boxed wr (w.heap.size + 1 + 1) 33 (.int .i64 0) from HR3.out).other (B' := w.heap.size + 1) (by omega) _).set _
      · exact Below.setCell (p := ⟨w.heap.size + 1 + 1, 0, none⟩) (Below.setCell (p := ⟨w.heap.size + 1, 0, none⟩) HBL.out (by simp <;> omega) _) (by simp <;> omega) _
end Go.Proofs.YtjpfdhhiofjpbaaGreatDoor
/- The walk of Pair of the package places. Conditions: lengths are Go's; the listed tables hold what they hold. -/
namespace Go.Proofs.YtjpfdhhiofjpbaaGreatDoor
open Go.RowKit Go.Sort Go.Shelf
attribute [local go_sem] Oper.semAt_some
/-- one pair more -/
noncomputable def Pt.pairStep (t : Pt) (a : Int) (x : Pr) (b : Int) : Pr := if decide (a < b) && decide (t.far ≤ dst (t.spot a.toNat).at_ (t.spot b.toNat).at_) && (decide (x.least < 0) || decide (t.whole a.toNat + t.whole b.toNat < x.least)) then ⟨a, b, t.whole a.toNat + t.whole b.toNat⟩ else x
noncomputable def Pt.pairRow (t : Pt) (a : Int) (L : List Int) (x : Pr) : Pr := L.foldl (t.pairStep a) x
noncomputable def Pt.pairAll (t : Pt) (L : List Int) : Pr := L.foldl (fun x a => t.pairRow a t.cans x) ⟨0, 0, -1⟩
theorem pairRow_snoc (t : Pt) (a : Int) (L : List Int) (x : Pr) (b : Int) : t.pairRow a (L ++ [b]) x = t.pairStep a (t.pairRow a L x) b := by unfold Pt.pairRow; rw [List.foldl_append]; rfl
theorem pairAll_snoc (t : Pt) (L : List Int) (a : Int) : t.pairAll (L ++ [a]) = t.pairRow a t.cans (t.pairAll L) := by unfold Pt.pairAll; rw [List.foldl_append]; rfl
theorem pairRow_sel {t : Pt} {a : Nat} (ha : t.canB a = true) (x : Pr) : ∀ n, t.pairRow a (selTo t.canB n) x = t.pairIn a n x
  | 0 => rfl
  | n + 1 => by
    have ih := pairRow_sel ha x n
    conv => rhs; unfold Pt.pairIn
    cases hn : t.canB n
    · rw [selTo_f hn, ih, if_neg]
      unfold Pt.mayB
      simp [hn]
    · rw [selTo_t hn, pairRow_snoc, ih]
      unfold Pt.pairStep Pt.mayB
      simp only [Int.toNat_natCast, ha, hn, Bool.true_and]
      have e : decide ((a : Int) < (n : Int)) = decide (a < n) := by simp
      rw [e]
theorem pairIn_no {t : Pt} {a : Nat} (ha : t.canB a = false) (x : Pr) : ∀ n, t.pairIn a n x = x
  | 0 => rfl
  | n + 1 => by
    unfold Pt.pairIn
    rw [if_neg (by unfold Pt.mayB; simp [ha]), pairIn_no ha x n]
theorem pairAll_sel (t : Pt) : ∀ n, t.pairAll (selTo t.canB n) = t.pairTo n
  | 0 => rfl
  | n + 1 => by
    have ih := pairAll_sel t n
    conv => rhs; unfold Pt.pairTo
    cases hn : t.canB n
    · rw [selTo_f hn, ih, pairIn_no hn]
    · rw [selTo_t hn, pairAll_snoc, ih]
      exact pairRow_sel hn _ t.ns
theorem whole_bd {t : Pt} (ok : t.Ok) {s : Nat} (hs : s < t.ns) : 0 ≤ t.whole s ∧ t.whole s ≤ 5400 := by
  have h1 : 0 ≤ (t.cheap s).1 ∧ (t.cheap s).1 ≤ 4968 := cheapOut_bd (ok.spot s hs).sh
  have h2 := sumTo_bd (f := fun w => if t.whoB s w then t.pence w else 0) (n := t.m) (lo := 0) (hi := 99) fun i hi => by
    have h3 := ok.pence i (by have := ok.np; have := ok.q.w0; unfold Pt.m at hi; omega)
    show 0 ≤ (if t.whoB s i then t.pence i else 0) ∧ (if t.whoB s i then t.pence i else 0) ≤ 99
    split <;> omega
  have h4 : t.m ≤ 4 := by have := ok.q.w1; unfold Pt.m; omega
  have h5 : (t.m : Int) * 99 ≤ 4 * 99 := Int.mul_le_mul_of_nonneg_right (by omega) (by decide)
  unfold Pt.whole Pt.askedTo
  omega
theorem pairAll_out (t : Pt) : t.pair = t.pairAll t.cans := (pairAll_sel t t.ns).symm
/-- what stands in the boxes -/
structure PrAt (W : World) (b2 b3 b6 : Nat) (x : Pr) : Prop where
  one : Boxed W b2 3 (.int .i64 x.one)
  other : Boxed W b3 3 (.int .i64 x.other)
  least : Boxed W b6 3 (.int .i64 x.least)
theorem PrAt.own {β : Type} (b2 b3 b6 : Nat) (f : β → Pr) : Own (fun s W => PrAt W b2 b3 b6 (f s)) := fun s X Y row hs hg hr =>
  ⟨boxed_own (β := Unit) b2 _ (fun _ => .int .i64 (f s).one) () X Y row hs.one hg hr, boxed_own (β := Unit) b3 _ (fun _ => .int .i64 (f s).other) () X Y row hs.other hg hr, boxed_own (β := Unit) b6 _ (fun _ => .int .i64 (f s).least) () X Y row hs.least hg hr⟩
theorem PrAt.alloc {W : World} {b2 b3 b6 : Nat} {x : Pr} (h : PrAt W b2 b3 b6 x) (o : Obj) : PrAt (W.alloc o) b2 b3 b6 x := ⟨h.one.alloc o, h.other.alloc o, h.least.alloc o⟩
theorem PrAt.mono {W W' : World} {b2 b3 b6 : Nat} {x : Pr} (h : PrAt W b2 b3 b6 x) (hb : Below W.heap.size W W') : PrAt W' b2 b3 b6 x := ⟨(hb.block _ h.one.lt).trans h.one, (hb.block _ h.other.lt).trans h.other, (hb.block _ h.least.lt).trans h.least⟩
theorem PrAt.put {W : World} {b2 b3 b6 : Nat} {x : Pr} (h : PrAt W b2 b3 b6 x) (h23 : b2 ≠ b3) (h26 : b2 ≠ b6) (h36 : b3 ≠ b6) (y : Pr) : PrAt (((W.setCell ⟨b2, 0, none⟩ (.int .i64 y.one)).setCell ⟨b3, 0, none⟩ (.int .i64 y.other)).setCell ⟨b6, 0, none⟩ (.int .i64 y.least)) b2 b3 b6 y :=
  ⟨((h.one.set _).other h23 _).other h26 _, ((h.other.other (Ne.symm h23) _).set _).other h36 _, ((h.least.other (Ne.symm h26) _).other (Ne.symm h36) _).set _⟩
/-- the memory of the call but for its first three boxes -/
def GoodP (w w1 W : World) : Prop := Below w.heap.size w W ∧ (∀ k, w.heap.size + 3 ≤ k → k < w1.heap.size → W.heap[k]? = w1.heap[k]?) ∧ w1.heap.size ≤ W.heap.size
theorem GoodP.grow {w w1 W W' : World} (h : GoodP w w1 W) (hb : Below W.heap.size W W') : GoodP w w1 W' := ⟨bTrans h.1 hb, fun k h1 h2 => (hb.block k (by have := h.2.2; omega)).trans (h.2.1 k h1 h2), Nat.le_trans h.2.2 hb.size⟩
theorem GoodP.set {w w1 W : World} (h : GoodP w w1 W) {b : Nat} (h1 : w.heap.size ≤ b) (h2 : b < w.heap.size + 3 ∨ w1.heap.size ≤ b) (v : Value) : GoodP w w1 (W.setCell ⟨b, 0, none⟩ v) :=
  ⟨Below.setCell (p := ⟨b, 0, none⟩) h.1 h1 v, fun k h3 h4 => (Below.heap_setCell W ⟨b, 0, none⟩ v k (by show k ≠ b; omega)).trans (h.2.1 k h3 h4), by simpa [World.setCell] using h.2.2⟩
theorem GoodP.own {β : Type} {w w1 : World} {B : Nat} (hw : w.heap.size ≤ B) (hw1 : w1.heap.size ≤ B) : OwnFrom B (fun (_ : β) W => GoodP w w1 W) := fun _ X Y row hs hg hr =>
  ⟨hs.1.grown hg (Nat.le_trans (by have := hs.1.size; omega) hs.1.size) (fun k e => by have := (hr k e).1; omega), fun k h1 h2 => (hg.block k (by have := hs.2.2; omega) (fun e => by have := (hr k e.symm).1; omega)).trans (hs.2.1 k h1 h2), Nat.le_trans hs.2.2 hg.size⟩
theorem tbox_own {β : Type} (b : Nat) (ty : TypeId) (cs : Array Value) : Own (fun (_ : β) W => TBox W b ty cs) := fun _ X Y row hs hg hr =>
  (hg.block b hs.lt (fun e => by obtain ⟨o, ho, hc⟩ := hr b e.symm; rw [show X.heap[b]? = _ from hs] at ho; cases ho; cases hc)).trans hs
theorem ptrs_own {β : Type} (C : Nat) (W0 : World) : Own (fun (_ : β) W => ∀ k : Nat, W0.heap[k]? = some (Obj.cells #[.pointer (some ⟨C, 0, none⟩)] 98 (0, 0)) → W.heap[k]? = W0.heap[k]?) := fun _ X Y row hs hg hr k hk => by
  have h1 := (hs k hk).trans hk
  exact (hg.block k (Array.getElem?_eq_some_iff.1 h1).1 (fun e => by obtain ⟨o, ho, hc⟩ := hr k e.symm; rw [h1] at ho; cases ho; cases hc)).trans (hs k hk)
theorem goodP_street {w w1 W : World} {C : Nat} {Aw Af Ao Ap As : Option Addr} {cw cf co cp cs : Nat} {t : Pt} {Al : Option Addr} {cl : Nat} (h : GoodP w w1 W) (hT : PAt w Aw Af Ao Ap As t) (hst : StreetAt w1 C Aw Af Ao Ap As cw cf co cp cs t Al cl) (hlo : StrLo (w.heap.size + 3) C Al t.q.leftL.length) : StreetAt W C Aw Af Ao Ap As cw cf co cp cs t Al cl := by
  refine ⟨(h.2.1 C hlo.1 hst.box.lt).trans hst.box, ?_, hT.mono h.1, hst.sep⟩
  rcases hst.left with h0 | ⟨b, o, hA, hlt, hc⟩
  · exact .inl h0
  · rcases hlo.2 with h0 | hl
    · exact .inl h0
    · exact .inr ⟨b, o, hA, Nat.lt_of_lt_of_le hlt h.2.2, fun j hj => (World.cell?_of_block (a := ⟨b, _, none⟩) (h.2.1 b (hl _ hA) hlt)).trans (hc j hj)⟩
/-- the body of the inner loop, in plain words -/
theorem pairStep_cases (t : Pt) (x : Pr) (a b : Nat) : (¬ a < b ∧ t.pairStep a x b = x) ∨ (a < b ∧ ¬ t.far ≤ dst (t.spot a).at_ (t.spot b).at_ ∧ t.pairStep a x b = x) ∨ (a < b ∧ t.far ≤ dst (t.spot a).at_ (t.spot b).at_ ∧ x.least < 0 ∧ t.pairStep a x b = ⟨a, b, t.whole a + t.whole b⟩) ∨ (a < b ∧ t.far ≤ dst (t.spot a).at_ (t.spot b).at_ ∧ ¬ x.least < 0 ∧ t.whole a + t.whole b < x.least ∧ t.pairStep a x b = ⟨a, b, t.whole a + t.whole b⟩) ∨ (a < b ∧ t.far ≤ dst (t.spot a).at_ (t.spot b).at_ ∧ ¬ x.least < 0 ∧ ¬ t.whole a + t.whole b < x.least ∧ t.pairStep a x b = x) := by
  unfold Pt.pairStep
  simp only [Int.toNat_natCast]
  by_cases h1 : a < b
  · by_cases h2 : t.far ≤ dst (t.spot a).at_ (t.spot b).at_
    · by_cases h3 : x.least < 0
      · exact .inr (.inr (.inl ⟨h1, h2, h3, by rw [if_pos]; simp [h1, h2, h3]⟩))
      · by_cases h4 : t.whole a + t.whole b < x.least
        · exact .inr (.inr (.inr (.inl ⟨h1, h2, h3, h4, by rw [if_pos]; simp [h1, h2, h4]⟩)))
        · exact .inr (.inr (.inr (.inr ⟨h1, h2, h3, h4, by rw [if_neg]; simp; omega⟩)))
    · exact .inr (.inl ⟨h1, h2, by rw [if_neg]; simp [h2]⟩)
  · exact .inl ⟨h1, by rw [if_neg]; simp; omega⟩
end Go.Proofs.YtjpfdhhiofjpbaaGreatDoor
/- Plain laws of chapter 9: the least of some, looser towns, towns that are alike, pairs. No program in sight. -/
namespace Go.Proofs.YtjpfdhhiofjpbaaGreatDoor
open Go.RowKit Go.Sort
theorem minBy_spec (f : Nat → Int) (p : Nat → Bool) : ∀ n, (minBy f p n = none ∧ ∀ i, i < n → p i = false) ∨ ∃ b, minBy f p n = some b ∧ b < n ∧ p b = true ∧ ∀ i, i < n → p i = true → f b ≤ f i
  | 0 => .inl ⟨rfl, fun i h => by omega⟩
  | n + 1 => by
    rcases minBy_spec f p n with ⟨h1, h2⟩ | ⟨b, h1, h2, h3, h4⟩
    · cases hp : p n
      · refine .inl ⟨by unfold minBy; rw [hp, h1]; rfl, fun i hi => ?_⟩
        rcases Nat.lt_succ_iff_lt_or_eq.1 hi with h | rfl
        · exact h2 i h
        · exact hp
      · refine .inr ⟨n, by unfold minBy; rw [hp, h1]; rfl, by omega, hp, fun i hi hpi => ?_⟩
        rcases Nat.lt_succ_iff_lt_or_eq.1 hi with h | rfl
        · rw [h2 i h] at hpi; cases hpi
        · exact Int.le_refl _
    · by_cases hc : p n = true ∧ f n < f b
      · refine .inr ⟨n, by unfold minBy; rw [hc.1, h1]; simp [hc.2], by omega, hc.1, fun i hi hpi => ?_⟩
        rcases Nat.lt_succ_iff_lt_or_eq.1 hi with h | rfl
        · have := h4 i h hpi; have := hc.2; omega
        · exact Int.le_refl _
      · refine .inr ⟨b, ?_, by omega, h3, fun i hi hpi => ?_⟩
        · unfold minBy
          rw [h1, if_neg]
          simp only [Bool.and_eq_true, decide_eq_true_eq]
          exact hc
        · rcases Nat.lt_succ_iff_lt_or_eq.1 hi with h | rfl
          · exact h4 i h hpi
          · have : ¬ f i < f b := fun h => hc ⟨hpi, h⟩
            omega
theorem minBy_congr {f g : Nat → Int} {p q : Nat → Bool} : ∀ n, (∀ i, i < n → f i = g i ∧ p i = q i) → minBy f p n = minBy g q n
  | 0, _ => rfl
  | n + 1, h => by
    have ih := minBy_congr n fun i hi => h i (by omega)
    have h1 := h n (by omega)
    rcases minBy_spec g q n with ⟨h2, _⟩ | ⟨b, h2, h3, _⟩
    · unfold minBy
      rw [ih, h2, h1.2]
    · have h4 := h b (by omega)
      unfold minBy
      rw [ih, h2, h1.2]
      simp only [h1.1, h4.1]
/-- the value at it, or more than anything costs -/
def valOf (f : Nat → Int) : Option Nat → Int
  | none => 100000
  | some b => f b
theorem valOf_le {f g : Nat → Int} {p q : Nat → Bool} {n m : Nat} (hnm : n ≤ m) (hp : ∀ i, i < n → p i = true → q i = true ∧ g i ≤ f i) (hb : ∀ i, i < m → q i = true → g i ≤ 100000) : valOf g (minBy g q m) ≤ valOf f (minBy f p n) := by
  rcases minBy_spec g q m with ⟨h1, h2⟩ | ⟨b, h1, h2, h3, h4⟩
  · rcases minBy_spec f p n with ⟨k1, _⟩ | ⟨c, k1, k2, k3, _⟩
    · rw [h1, k1]; exact Int.le_refl _
    · have := h2 c (by omega)
      rw [(hp c k2 k3).1] at this
      cases this
  · rcases minBy_spec f p n with ⟨k1, _⟩ | ⟨c, k1, k2, k3, _⟩
    · rw [h1, k1]; exact hb b h2 h3
    · rw [h1, k1]
      have h5 := hp c k2 k3
      have := h4 c (by omega) h5.1
      show g b ≤ f c
      omega
noncomputable def Pt.bestV (t : Pt) : Int := valOf (fun s => (t.cheap s).1) t.best
noncomputable def Pt.cheapV (t : Pt) : Int := valOf t.whole t.cheapest
noncomputable def Pt.pairV (t : Pt) : Int := if t.pair.least < 0 then 100000 else t.pair.least
theorem cheap_bd {t : Pt} (ok : t.Ok) {s : Nat} (hs : s < t.ns) : 0 ≤ (t.cheap s).1 ∧ (t.cheap s).1 ≤ 4968 := cheapOut_bd (ok.spot s hs).sh
theorem askedTo_mono {o t : Pt} {s : Nat} : ∀ k, (∀ w, w < k → o.pence w = t.pence w ∧ 0 ≤ t.pence w) → (∀ w, w < k → o.whoB s w = true → t.whoB s w = true) → o.askedTo s k ≤ t.askedTo s k
  | 0, _, _ => Int.le_refl _
  | k + 1, hp, hw => by
    have ih := askedTo_mono k (fun w h => hp w (by omega)) (fun w h => hw w (by omega))
    have h1 := hp k (by omega)
    have h2 := hw k (by omega)
    show sumTo _ k + (if o.whoB s k then o.pence k else 0) ≤ sumTo _ k + (if t.whoB s k then t.pence k else 0)
    have ih : sumTo (fun w => if o.whoB s w then o.pence w else 0) k ≤ sumTo (fun w => if t.whoB s w then t.pence w else 0) k := ih
    cases ho : o.whoB s k
    · cases ht : t.whoB s k
      · simp only [Bool.false_eq_true, if_false]; omega
      · simp only [Bool.false_eq_true, if_false, if_true]; omega
    · rw [h2 ho]
      simp only [if_true]
      omega
theorem askedTo_nonneg {t : Pt} {s : Nat} : ∀ k, (∀ w, w < k → 0 ≤ t.pence w) → 0 ≤ t.askedTo s k
  | 0, _ => Int.le_refl _
  | k + 1, hp => by
    have ih : 0 ≤ sumTo (fun w => if t.whoB s w then t.pence w else 0) k := askedTo_nonneg k fun w h => hp w (by omega)
    have h1 := hp k (by omega)
    show 0 ≤ sumTo _ k + (if t.whoB s k then t.pence k else 0)
    split <;> omega
theorem askedTo_none {t : Pt} {s : Nat} : ∀ k, (∀ w, w < k → t.whoB s w = false) → t.askedTo s k = 0
  | 0, _ => rfl
  | k + 1, hp => by
    have ih : sumTo (fun w => if t.whoB s w then t.pence w else 0) k = 0 := askedTo_none k fun w h => hp w (by omega)
    show sumTo _ k + (if t.whoB s k then t.pence k else 0) = 0
    rw [ih, hp k (by omega)]
    rfl
theorem Pt.m_no {t : Pt} (ok : t.Ok) : t.m = t.no := by have := ok.no; unfold Pt.m; omega
theorem Pt.m_np {t : Pt} (ok : t.Ok) : t.m = t.np := by have := ok.np; unfold Pt.m; omega
/-! ### towns in which less is forbidden -/
structure Looser (o t : Pt) : Prop where
  ns : o.ns = t.ns
  m : o.m = t.m
  sh : ∀ s, s < t.ns → (o.spot s).sh = (t.spot s).sh
  pence : ∀ w, w < t.m → o.pence w = t.pence w ∧ 0 ≤ t.pence w
  who : ∀ s w, s < t.ns → w < t.m → o.whoB s w = true → t.whoB s w = true
section
variable {o t : Pt} (h : Looser o t)
include h
theorem Looser.cheap {s : Nat} (hs : s < t.ns) : o.cheap s = t.cheap s := by unfold Pt.cheap; rw [h.sh s hs]
theorem Looser.canB {s : Nat} (hs : s < t.ns) : o.canB s = t.canB s := by unfold Pt.canB; rw [h.cheap hs]
theorem Looser.freeB {s : Nat} (hs : s < t.ns) (hf : t.freeB s = true) : o.freeB s = true := by
  unfold Pt.freeB at hf ⊢
  simp only [Bool.and_eq_true, Bool.not_eq_true'] at hf ⊢
  refine ⟨by rw [h.canB hs]; exact hf.1, anyB_false.2 fun w hw => ?_⟩
  rw [h.m] at hw
  cases hb : o.whoB s w
  · rfl
  · have := anyB_false.1 hf.2 w hw
    rw [h.who s w hs hw hb] at this
    cases this
theorem Looser.whole {s : Nat} (hs : s < t.ns) : o.whole s ≤ t.whole s := by
  have := askedTo_mono (o := o) (t := t) (s := s) t.m h.pence fun w hw => h.who s w hs hw
  unfold Pt.whole
  rw [h.cheap hs, h.m]
  omega
theorem Looser.best (ok : t.Ok) : o.bestV ≤ t.bestV := by
  unfold Pt.bestV Pt.best
  rw [h.ns]
  exact valOf_le (Nat.le_refl _) (fun i hi hf => ⟨h.freeB hi hf, by rw [h.cheap hi]; exact Int.le_refl _⟩) fun i hi _ => by rw [h.cheap hi]; have := cheap_bd ok hi; omega
theorem Looser.cheapest (ok : t.Ok) : o.cheapV ≤ t.cheapV := by
  unfold Pt.cheapV Pt.cheapest
  rw [h.ns]
  exact valOf_le (Nat.le_refl _) (fun i hi hf => ⟨by rw [h.canB hi]; exact hf, h.whole hi⟩) fun i hi _ => by have := h.whole hi; have := whole_bd ok hi; omega
end
/-! ### towns that are alike -/
structure Twin (o t : Pt) : Prop where
  ns : t.ns ≤ o.ns
  m : o.m = t.m
  sh : ∀ s, s < t.ns → (o.spot s).sh = (t.spot s).sh
  pence : ∀ w, w < t.m → o.pence w = t.pence w
  who : ∀ s w, s < t.ns → w < t.m → o.whoB s w = t.whoB s w
  far : ∀ a b, a < t.ns → b < t.ns → decide (o.far ≤ dst (o.spot a).at_ (o.spot b).at_) = decide (t.far ≤ dst (t.spot a).at_ (t.spot b).at_)
section
variable {o t : Pt} (h : Twin o t)
include h
theorem Twin.cheap {s : Nat} (hs : s < t.ns) : o.cheap s = t.cheap s := by unfold Pt.cheap; rw [h.sh s hs]
theorem Twin.canB {s : Nat} (hs : s < t.ns) : o.canB s = t.canB s := by unfold Pt.canB; rw [h.cheap hs]
theorem Twin.freeB {s : Nat} (hs : s < t.ns) : o.freeB s = t.freeB s := by
  unfold Pt.freeB Pt.whoAny
  rw [h.canB hs, h.m, anyB_congr fun w hw => h.who s w hs hw]
theorem Twin.whole {s : Nat} (hs : s < t.ns) : o.whole s = t.whole s := by
  unfold Pt.whole Pt.askedTo
  rw [h.cheap hs, h.m, sumTo_congr fun w hw => by rw [h.who s w hs hw, h.pence w hw]]
theorem Twin.mayB {a b : Nat} (ha : a < t.ns) (hb : b < t.ns) : o.mayB a b = t.mayB a b := by
  unfold Pt.mayB
  rw [h.canB ha, h.canB hb, h.far a b ha hb]
theorem Twin.frees (hn : o.ns = t.ns) : o.frees = t.frees := by unfold Pt.frees; rw [hn]; exact selTo_congr _ fun s hs => h.freeB hs
theorem Twin.best (hn : o.ns = t.ns) : o.best = t.best := by unfold Pt.best; rw [hn]; exact minBy_congr _ fun s hs => ⟨by rw [h.cheap hs], h.freeB hs⟩
theorem Twin.cheapest (hn : o.ns = t.ns) : o.cheapest = t.cheapest := by unfold Pt.cheapest; rw [hn]; exact minBy_congr _ fun s hs => ⟨h.whole hs, h.canB hs⟩
theorem Twin.pairIn {a : Nat} (ha : a < t.ns) (x : Pr) : ∀ n, n ≤ t.ns → o.pairIn a n x = t.pairIn a n x
  | 0, _ => rfl
  | n + 1, hn => by
    have ih := Twin.pairIn ha x n (by omega)
    unfold Pt.pairIn
    rw [ih, h.mayB ha (by omega : n < t.ns), h.whole ha, h.whole (by omega : n < t.ns)]
theorem Twin.pairTo (hn : o.ns = t.ns) : ∀ n, n ≤ t.ns → o.pairTo n = t.pairTo n
  | 0, _ => rfl
  | n + 1, hl => by
    unfold Pt.pairTo
    rw [Twin.pairTo hn n (by omega), hn, h.pairIn (by omega : n < t.ns) _ t.ns (Nat.le_refl _)]
theorem Twin.pair (hn : o.ns = t.ns) : o.pair = t.pair := by unfold Pt.pair; rw [hn]; exact h.pairTo hn t.ns (Nat.le_refl _)
end
/-! ### pairs -/
def PrOk (t : Pt) (D : Nat → Nat → Prop) (x : Pr) : Prop :=
  (x.least < 0 ∧ ∀ a b, D a b → t.mayB a b = false) ∨ (∃ a b : Nat, a < t.ns ∧ b < t.ns ∧ t.mayB a b = true ∧ x = ⟨a, b, t.whole a + t.whole b⟩ ∧ ∀ a' b', D a' b' → t.mayB a' b' = true → t.whole a + t.whole b ≤ t.whole a' + t.whole b')
theorem PrOk.step {t : Pt} {D : Nat → Nat → Prop} {x : Pr} (h : PrOk t D x) (hp : ∀ s, s < t.ns → 0 ≤ t.whole s) (a b : Nat) (ha : a < t.ns) (hb : b < t.ns) :
    PrOk t (fun c d => D c d ∨ (c = a ∧ d = b)) (if t.mayB a b && (decide (x.least < 0) || decide (t.whole a + t.whole b < x.least)) then ⟨a, b, t.whole a + t.whole b⟩ else x) := by
  cases hm : t.mayB a b
  · rw [if_neg (by simp)]
    rcases h with ⟨h1, h2⟩ | ⟨c, d, h1, h2, h3, h4, h5⟩
    · refine .inl ⟨h1, fun a' b' hd => ?_⟩
      rcases hd with hd | ⟨rfl, rfl⟩
      · exact h2 a' b' hd
      · exact hm
    · refine .inr ⟨c, d, h1, h2, h3, h4, fun a' b' hd hm' => ?_⟩
      rcases hd with hd | ⟨rfl, rfl⟩
      · exact h5 a' b' hd hm'
      · rw [hm] at hm'; cases hm'
  · rcases h with ⟨h1, h2⟩ | ⟨c, d, h1, h2, h3, rfl, h5⟩
    · rw [if_pos (by simp [h1])]
      refine .inr ⟨a, b, ha, hb, hm, rfl, fun a' b' hd hm' => ?_⟩
      rcases hd with hd | ⟨rfl, rfl⟩
      · rw [h2 a' b' hd] at hm'; cases hm'
      · exact Int.le_refl _
    · have hc := hp c h1
      have hd := hp d h2
      by_cases hl : t.whole a + t.whole b < t.whole c + t.whole d
      · rw [if_pos (by simp [hl])]
        refine .inr ⟨a, b, ha, hb, hm, rfl, fun a' b' hd hm' => ?_⟩
        rcases hd with hd | ⟨rfl, rfl⟩
        · have := h5 a' b' hd hm'; omega
        · exact Int.le_refl _
      · rw [if_neg (by simp; omega)]
        refine .inr ⟨c, d, h1, h2, h3, rfl, fun a' b' hd hm' => ?_⟩
        rcases hd with hd | ⟨rfl, rfl⟩
        · exact h5 a' b' hd hm'
        · omega
theorem PrOk.weaken {t : Pt} {D E : Nat → Nat → Prop} {x : Pr} (h : PrOk t D x) (he : ∀ a b, E a b → D a b) : PrOk t E x := by
  rcases h with ⟨h1, h2⟩ | ⟨c, d, h1, h2, h3, h4, h5⟩
  · exact .inl ⟨h1, fun a b hd => h2 a b (he a b hd)⟩
  · exact .inr ⟨c, d, h1, h2, h3, h4, fun a b hd => h5 a b (he a b hd)⟩
theorem pairIn_ok {t : Pt} {D : Nat → Nat → Prop} {x : Pr} (h : PrOk t D x) (hp : ∀ s, s < t.ns → 0 ≤ t.whole s) (a : Nat) (ha : a < t.ns) : ∀ n, n ≤ t.ns → PrOk t (fun c d => D c d ∨ (c = a ∧ d < n)) (t.pairIn a n x)
  | 0, _ => h.weaken fun c d hd => by rcases hd with hd | ⟨_, hd⟩; exact hd; omega
  | n + 1, hn => by
    have ih := pairIn_ok h hp a ha n (by omega)
    have := ih.step hp a n ha (by omega)
    unfold Pt.pairIn
    refine this.weaken fun c d hd => ?_
    rcases hd with hd | ⟨h1, h2⟩
    · exact .inl (.inl hd)
    · by_cases e : d = n
      · exact .inr ⟨h1, e⟩
      · exact .inl (.inr ⟨h1, by omega⟩)
theorem pairTo_ok {t : Pt} (hp : ∀ s, s < t.ns → 0 ≤ t.whole s) : ∀ n, n ≤ t.ns → PrOk t (fun c d => c < n ∧ d < t.ns) (t.pairTo n)
  | 0, _ => .inl ⟨by show (-1 : Int) < 0; decide, fun a b h => by omega⟩
  | n + 1, hn => by
    have ih := pairTo_ok hp n (by omega)
    have := pairIn_ok ih hp n (by omega) t.ns (Nat.le_refl _)
    unfold Pt.pairTo
    refine this.weaken fun c d hd => ?_
    by_cases e : c = n
    · exact .inr ⟨e, hd.2⟩
    · exact .inl ⟨by omega, hd.2⟩
theorem pair_ok {t : Pt} (ok : t.Ok) : PrOk t (fun c d => c < t.ns ∧ d < t.ns) t.pair := pairTo_ok (fun s hs => (whole_bd ok hs).1) t.ns (Nat.le_refl _)
theorem pairV_cases {t : Pt} (ok : t.Ok) : (t.pair.least < 0 ∧ t.pairV = 100000 ∧ ∀ a b, a < t.ns → b < t.ns → t.mayB a b = false) ∨ ∃ a b : Nat, a < t.ns ∧ b < t.ns ∧ t.mayB a b = true ∧ t.pair = ⟨a, b, t.whole a + t.whole b⟩ ∧ t.pairV = t.whole a + t.whole b ∧ ∀ a' b', a' < t.ns → b' < t.ns → t.mayB a' b' = true → t.whole a + t.whole b ≤ t.whole a' + t.whole b' := by
  rcases pair_ok ok with ⟨h1, h2⟩ | ⟨a, b, h1, h2, h3, h4, h5⟩
  · exact .inl ⟨h1, by unfold Pt.pairV; rw [if_pos h1], fun a b ha hb => h2 a b ⟨ha, hb⟩⟩
  · refine .inr ⟨a, b, h1, h2, h3, h4, ?_, fun a' b' ha hb => h5 a' b' ⟨ha, hb⟩⟩
    have := whole_bd ok h1
    have := whole_bd ok h2
    unfold Pt.pairV
    rw [h4, if_neg (by show ¬ t.whole a + t.whole b < 0; omega)]
end Go.Proofs.YtjpfdhhiofjpbaaGreatDoor
/- What the statement of each world says of the plain values. Plain Lean. No condition but a valid town, where it is said. -/
namespace Go.Proofs.YtjpfdhhiofjpbaaGreatDoor
open Go.RowKit Go.Sort
theorem selTo_nilQ {p : Nat → Bool} : ∀ {n : Nat}, selTo p n = [] ↔ anyB p n = false
  | 0 => by simp [selTo, anyB]
  | n + 1 => by
    have ih := selTo_nilQ (p := p) (n := n)
    unfold selTo anyB
    cases h : p n
    · simp [ih]
    · simp
theorem wellB_in {t : Qt} (ok : t.Ok) {p : Nat} (hp : (p : Int) < t.wells) : t.wellB (p : Int) = true := by rw [wellB_ok ok]; exact inR_t (by omega)
end Go.Proofs.YtjpfdhhiofjpbaaGreatDoor
/- Walks of the law 05: Far, ready, isKnown, inside; of the reference 01: In. Conditions: lengths are Go's. -/
namespace Go.Proofs.YtjpfdhhiofjpbaaGreatDoor
open Go.RowKit Go.Sort
set_option maxHeartbeats 2000000 in
set_option maxRecDepth 100000 in
theorem in1_any (A : Option Addr) (n c : Nat) (f : Nat → Int) (x : Int) (w : World) (hn : n ≤ 9223372036854775807) (hI : IntsAt w A n f) :
    Calls Tryz.prog 41 #[.slice A n c, .int .i64 x] w fun e w' => e = .returned (.bool (anyB (fun i => f i == x) n)) ∧ Below w.heap.size w w' := by
  have HI := Lib.hid hI
  clear hI
  go_enter Tryz.func41, Tryz.ntmps41
  go_wp2_with fail
  go_loopw [5] (fun s wr => ∃ k : Nat, k ≤ n ∧ s = .int .i64 k ∧ anyB (fun i => f i == x) k = false ∧ w = wr) (fun s _ => n - (intOf s).toNat)
  case atStart => exact ⟨0, Nat.zero_le _, rfl, rfl, rfl⟩
  case round =>
    obtain ⟨k, hk, rfl, hno, rfl⟩ := hrel
    have HNO := Lib.hid hno
    clear hno
    by_cases hlt : k < n
    · obtain ⟨b, o, rfl, hb, c0⟩ := HI.out.get hlt
      have k1 : (k : Int) < (n : Int) := by omega
      have k0 : (0 : Int) ≤ (k : Int) := by omega
      obtain ⟨v, hv⟩ : ∃ v, f k = v := ⟨_, rfl⟩
      rw [hv] at c0
      by_cases hx : v = x
      · have HH := Lib.hid (show anyB (fun i => f i == x) n = true from anyB_hit hlt (by simp [hv, hx]))
        have hx1 : (v == x) = true := by simp [hx]
        clear hv hx
        go_wp2_with fail
        go_ret
        exact ⟨ret_bool (by rw [HH.out]), Below.refl _ _⟩
      · have HH := Lib.hid (show anyB (fun i => f i == x) (k + 1) = false from anyB_step HNO.out (by simp [hv, hx]))
        have hx1 : (v == x) = false := by simp [hx]
        clear hv hx
        go_wp2_with fail
        go_roundw
        case rel =>
          first
          | exact ⟨k + 1, by omega, by go_num, HH.out, trivial⟩
          | ((repeat apply Exists.intro)
             refine ⟨⟨k + 1, by omega, ?_, HH.out, trivial⟩, rfl⟩
             go_num)
        case measure => simp [intOf]; omega
    · obtain rfl : k = n := by omega
      have k1 : ¬ (k : Int) < (k : Int) := by omega
      go_wp2_with fail
      go_ret
      exact ⟨ret_bool (by rw [HNO.out]), Below.refl _ _⟩
end Go.Proofs.YtjpfdhhiofjpbaaGreatDoor
/- Walks of the reference 05: lists. Conditions: at most 16 tests. -/
namespace Go.Proofs.YtjpfdhhiofjpbaaGreatDoor
open Go.RowKit Go.Sort
/-! ### An append to a row of the call's own: where the row lies afterwards -/
/-! ### Lists of lists of tests -/
def TRow (w : World) (u : Value) (l : List Tp) : Prop := ∃ A c, u = .slice A l.length c ∧ RowK w A 79 (tstE.cells l)
theorem TRow.kept {ts : List TypeId} {w w' : World} {u : Value} {l : List Tp} (h : TRow w u l) (hk : Kept ts w w') (ht : 79 ∈ ts) : TRow w' u l := by
  obtain ⟨A, c, e, hr⟩ := h
  exact ⟨A, c, e, hr.kept hk ht⟩
def TRows (w : World) (LL : List (List Tp)) (us : List Value) : Prop := us.length = LL.length ∧ ∀ (j : Nat) (u : Value) (l : List Tp), us[j]? = some u → LL[j]? = some l → TRow w u l
theorem TRows.kept {ts : List TypeId} {w w' : World} {LL : List (List Tp)} {us : List Value} (h : TRows w LL us) (hk : Kept ts w w') (ht : 79 ∈ ts) : TRows w' LL us := ⟨h.1, fun j u l h1 h2 => (h.2 j u l h1 h2).kept hk ht⟩
/-- a list of lists of tests, of the call's own -/
def ListsAt (w : World) (base : Nat) (v : Value) (LL : List (List Tp)) : Prop := ∃ us, w.ownsRow base 71 1 v LL.length us ∧ TRows w LL us
theorem ListsAt.mono {w w' : World} {base : Nat} {v : Value} {LL : List (List Tp)} (h : ListsAt w base v LL) (hb : Below w.heap.size w w') : ListsAt w' base v LL := by
  obtain ⟨us, h1, h2⟩ := h
  exact ⟨us, owns_below h1 hb, h2.kept (Kept.of_below (l := [79]) hb) (by simp)⟩
theorem ListsAt.lower {w : World} {base base' : Nat} {v : Value} {LL : List (List Tp)} (h : ListsAt w base v LL) (hb : base' ≤ base) : ListsAt w base' v LL := by
  obtain ⟨us, h1, h2⟩ := h
  exact ⟨us, owns_lower h1 hb, h2⟩
end Go.Proofs.YtjpfdhhiofjpbaaGreatDoor
/- Walks of the reference 05: Split. Conditions: lengths are Go's. -/
namespace Go.Proofs.YtjpfdhhiofjpbaaGreatDoor
open Go.RowKit Go.Sort
end Go.Proofs.YtjpfdhhiofjpbaaGreatDoor
/- Walks of the reference 05: behind, depth. Conditions: a valid town and worlds of it. -/
namespace Go.Proofs.YtjpfdhhiofjpbaaGreatDoor
open Go.RowKit Go.Sort
end Go.Proofs.YtjpfdhhiofjpbaaGreatDoor
/- Walks of the reference 05: Depth, Next. Conditions: lengths are Go's. -/
namespace Go.Proofs.YtjpfdhhiofjpbaaGreatDoor
open Go.RowKit Go.Sort
end Go.Proofs.YtjpfdhhiofjpbaaGreatDoor
/- Walks of the reference 05: Fewest. Conditions: lengths are Go's. -/
namespace Go.Proofs.YtjpfdhhiofjpbaaGreatDoor
open Go.RowKit Go.Sort
/-- what the reference hands back: a list of tests, and an error -/
def RefLst (w : World) (er : Int) (L : List Tp) (e : Ending) : Prop := (er = 0 → ∃ A c, e = .returned (.tuple #[.slice A L.length c, .int .i64 er]) ∧ RowAt w A (tstE.cells L)) ∧ (er ≠ 0 → e = .returned (.tuple #[.slice none 0 0, .int .i64 er]))
end Go.Proofs.YtjpfdhhiofjpbaaGreatDoor
/- What comes back with a list of tests, in one form. No condition. -/
namespace Go.Proofs.YtjpfdhhiofjpbaaGreatDoor
open Go.RowKit Go.Sort
/-- the list that comes back with an error -/
def lstO (er : Int) (L : List Tp) : List Tp := if er = 0 then L else []
theorem LstOut.o {w : World} {er : Int} {L : List Tp} {e : Ending} (h : LstOut w er L e) : ∃ A c, e = .returned (.tuple #[.slice A (lstO er L).length c, .int .i64 er]) ∧ RowAt w A (tstE.cells (lstO er L)) := by
  unfold lstO
  by_cases h0 : er = 0
  · obtain ⟨A, c, e1, h1⟩ := h.1 h0
    rw [if_pos h0]
    exact ⟨A, c, e1, h1.row⟩
  · rw [if_neg h0]
    exact ⟨none, 0, h.2 h0, .inl rfl⟩
theorem RefLst.o {w : World} {er : Int} {L : List Tp} {e : Ending} (h : RefLst w er L e) : ∃ A c, e = .returned (.tuple #[.slice A (lstO er L).length c, .int .i64 er]) ∧ RowAt w A (tstE.cells (lstO er L)) := by
  unfold lstO
  by_cases h0 : er = 0
  · obtain ⟨A, c, e1, h1⟩ := h.1 h0
    rw [if_pos h0]
    exact ⟨A, c, e1, h1⟩
  · rw [if_neg h0]
    exact ⟨none, 0, h.2 h0, .inl rfl⟩
end Go.Proofs.YtjpfdhhiofjpbaaGreatDoor
/- Walks of the reference 05: Decides. Conditions: a valid town, tests and worlds of it. -/
namespace Go.Proofs.YtjpfdhhiofjpbaaGreatDoor
open Go.RowKit Go.Sort
end Go.Proofs.YtjpfdhhiofjpbaaGreatDoor
/- Walks of the reference 05: Decide. Conditions: lengths are Go's. -/
namespace Go.Proofs.YtjpfdhhiofjpbaaGreatDoor
open Go.RowKit Go.Sort
end Go.Proofs.YtjpfdhhiofjpbaaGreatDoor
/- The walk of Decide of the package quarrels. Conditions: lengths are Go's; the listed table holds what it holds. -/
namespace Go.Proofs.YtjpfdhhiofjpbaaGreatDoor
open Go.RowKit Go.Sort Go.Shelf
theorem CourtAt.set {w : World} {C b : Nat} {Aw Af : Option Addr} {cw cf : Nat} {t : Qt} {s mp : Nat} (h : CourtAt w C Aw Af cw cf t s mp) (hne : b ≠ C) (o : Nat) (v : Value) : CourtAt (w.setCell ⟨b, o, none⟩ v) C Aw Af cw cf t s mp :=
  ⟨h.box.set hne o v, fun k => by rw [World.frozen?_setCell]; exact h.frz k⟩
end Go.Proofs.YtjpfdhhiofjpbaaGreatDoor
/- The statement QuarrelsDecide: the walk. Conditions: what is read fits into memory; the listed table holds what it holds. -/
namespace Go.Proofs.YtjpfdhhiofjpbaaGreatDoor
open Go.RowKit Go.Sort
end Go.Proofs.YtjpfdhhiofjpbaaGreatDoor
/- The statement QuarrelsFewest: the walk. Conditions: what is read fits into memory; the listed table holds what it holds. -/
namespace Go.Proofs.YtjpfdhhiofjpbaaGreatDoor
open Go.RowKit Go.Sort
end Go.Proofs.YtjpfdhhiofjpbaaGreatDoor
/- What the statement of who decides says of the plain values. Plain Lean. Conditions: a valid town. -/
namespace Go.Proofs.YtjpfdhhiofjpbaaGreatDoor
open Go.RowKit Go.Sort
end Go.Proofs.YtjpfdhhiofjpbaaGreatDoor
/- Plain laws of chapter 9: who decides, each world, one fact more, the looser law, the street. No program in sight. -/
namespace Go.Proofs.YtjpfdhhiofjpbaaGreatDoor
open Go.RowKit Go.Sort
theorem inN_zero {t : Pt} {s w : Nat} : t.inN s w = 0 ↔ ∀ a, a ∈ t.q.leftL → t.forb s w a = false := by
  unfold Pt.inN Pt.inTo
  rw [cntB_zero]
  constructor
  · intro h a ha
    obtain ⟨i, hi, rfl⟩ := mem_intL0 ha
    exact h i hi
  · intro h i hi
    exact h _ (intL0_mem hi)
theorem inN_all {t : Pt} {s w : Nat} : t.inN s w = t.q.leftL.length ↔ ∀ a, a ∈ t.q.leftL → t.forb s w a = true := by
  unfold Pt.inN Pt.inTo
  rw [cntB_all]
  constructor
  · intro h a ha
    obtain ⟨i, hi, rfl⟩ := mem_intL0 ha
    exact h i hi
  · intro h i hi
    exact h _ (intL0_mem hi)
theorem knownK_three {so all : Nat} : knownK (so : Int) (all : Int) = 3 ↔ so ≠ 0 ∧ so ≠ all := by
  unfold knownK
  constructor
  · intro h
    refine ⟨fun e => ?_, fun e => ?_⟩
    · rw [if_pos (by omega)] at h; cases h
    · by_cases h0 : (so : Int) = 0
      · rw [if_pos h0] at h; cases h
      · rw [if_neg h0, if_pos (by omega)] at h; cases h
  · rintro ⟨h1, h2⟩
    rw [if_neg (by omega), if_neg (by omega)]
theorem knownK_one {so all : Nat} : knownK (so : Int) (all : Int) = 1 ↔ so ≠ 0 ∧ so = all := by
  unfold knownK
  by_cases h0 : (so : Int) = 0
  · rw [if_pos h0]
    exact ⟨(fun h => by cases h), fun h => by omega⟩
  · rw [if_neg h0]
    by_cases h1 : (so : Int) = all
    · rw [if_pos h1]
      exact ⟨fun _ => by omega, fun _ => rfl⟩
    · rw [if_neg h1]
      exact ⟨(fun h => by cases h), fun h => by omega⟩
theorem knownK_two {so all : Nat} : knownK (so : Int) (all : Int) = 2 ↔ so = 0 := by
  unfold knownK
  by_cases h0 : (so : Int) = 0
  · rw [if_pos h0]
    exact ⟨fun _ => by omega, fun _ => rfl⟩
  · rw [if_neg h0]
    by_cases h1 : (so : Int) = all
    · rw [if_pos h1]
      exact ⟨(fun h => by cases h), fun h => by omega⟩
    · rw [if_neg h1]
      exact ⟨(fun h => by cases h), fun h => by omega⟩
theorem knownK_in (so all : Int) : 1 ≤ knownK so all ∧ knownK so all ≤ 3 := by
  unfold knownK
  split
  · omega
  · split <;> omega
/-! ### one fact more -/
/-! ### the looser law -/
/-! ### the street, seen from the other end -/
/-! ### one spot more -/
/-! ### the least harm -/
theorem anyFree_frees {t : Pt} : t.anyFree = decide (0 < t.frees.length) := by
  refine Bool.eq_iff_iff.2 ?_
  rw [decide_eq_true_eq, List.length_pos_iff]
  unfold Pt.frees
  rw [Ne, selTo_nilQ]
  unfold Pt.anyFree
  simp
theorem best_isSome {t : Pt} : t.best.isSome = t.anyFree := by
  unfold Pt.best
  rcases minBy_spec (fun s => (t.cheap s).1) t.freeB t.ns with ⟨h1, h2⟩ | ⟨b, h1, h2, h3, _⟩
  · rw [h1]
    exact (anyB_false.2 h2).symm
  · rw [h1]
    exact (anyB_true.2 ⟨b, h2, h3⟩).symm
end Go.Proofs.YtjpfdhhiofjpbaaGreatDoor
