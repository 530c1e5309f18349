/- Parts joined: what the claim PlacesSpot needs beyond the others. -/
import Derived.Test.YtjpfdhhiofjpbaaGreatDoorNQPlacesSpotB
set_option linter.unusedSimpArgs false
set_option linter.unusedVariables false
namespace Go.Proofs.YtjpfdhhiofjpbaaGreatDoor
open Go.RowKit Go.Sort
/-- a pointer to a street -/
def strS (v : Value) : Prop := ∃ C, v = .tuple #[.pointer (some ⟨C, 0, none⟩), .int .i64 0]
def strR (Aw Af Ao Ap As : Option Addr) (cw cf co cp cs : Nat) (t : Pt) (w : World) (v : Value) : Prop := ∀ C, v = .tuple #[.pointer (some ⟨C, 0, none⟩), .int .i64 0] → ∃ Al cl, StreetAt w C Aw Af Ao Ap As cw cf co cp cs t Al cl
theorem strG {Aw Af Ao Ap As : Option Addr} {cw cf co cp cs : Nat} {t : Pt} : (Stir.held strS (strR Aw Af Ao Ap As cw cf co cp cs t)).good := ⟨⟨_, 0, rfl⟩, fun _ _ _ hb h C e => by
  obtain ⟨Al, cl, h⟩ := h C e
  exact ⟨Al, cl, h.mono hb⟩⟩
theorem own_cap {α : Type} {E : Elem α} {w : World} {N : Nat} {v : Value} {l : List α} (h : OwnE E w N v l) : ∃ A c, v = .slice A l.length c ∧ RowAt w A (E.cells l) ∧ l.length ≤ c ∧ c ≤ 9223372036854775807 := by
  obtain ⟨A, c, e, hr⟩ := h.read
  rcases h.2 with ⟨e2, h1⟩ | ⟨g, cap, cur, e2, _, _, h3, h4, _⟩
  · rw [e] at e2
    injection e2 with _ _ e3
    subst e3
    exact ⟨A, 0, e, hr, Nat.le_of_eq h1, by omega⟩
  · rw [e] at e2
    injection e2 with _ _ e3
    subst e3
    exact ⟨A, c, e, hr, h3, by unfold maxLen at h4; omega⟩
def stpS (v : Value) : Prop := ∃ C, v = .pointer (some ⟨C, 0, none⟩)
def stpR (Aw Af Ao Ap As : Option Addr) (cw cf co cp cs : Nat) (t : Pt) (w : World) (v : Value) : Prop := ∀ C, v = .pointer (some ⟨C, 0, none⟩) → ∃ Al cl, StreetAt w C Aw Af Ao Ap As cw cf co cp cs t Al cl
theorem stpG {Aw Af Ao Ap As : Option Addr} {cw cf co cp cs : Nat} {t : Pt} : (Stir.held stpS (stpR Aw Af Ao Ap As cw cf co cp cs t)).good := ⟨⟨_, 0, rfl⟩, fun _ _ _ hb h C e => by
  obtain ⟨Al, cl, h⟩ := h C e
  exact ⟨Al, cl, h.mono hb⟩⟩
theorem StreetAt.setNew {w : World} {C : Nat} {Aw Af Ao Ap As : Option Addr} {cw cf co cp cs : Nat} {t : Pt} {Al : Option Addr} {cl : Nat} (h : StreetAt w C Aw Af Ao Ap As cw cf co cp cs t Al cl) {b : Nat} {T : TypeId} (hb : TBox w b T #[.pointer none]) (v : Value) (hp : PAt (w.setCell ⟨b, 0, none⟩ v) Aw Af Ao Ap As t) : StreetAt (w.setCell ⟨b, 0, none⟩ v) C Aw Af Ao Ap As cw cf co cp cs t Al cl := by
  have hk : ∀ k, k ≠ b → (w.setCell ⟨b, 0, none⟩ v).heap[k]? = w.heap[k]? := fun k hk => Below.heap_setCell w ⟨b, 0, none⟩ _ k hk
  have hbC : b ≠ C := fun e => by
    subst e
    have h1 : w.heap[b]? = some _ := h.box
    have h2 : w.heap[b]? = some _ := hb
    rw [h1] at h2
    simp at h2
  refine ⟨h.box.other hbC 0 v, ?_, hp, h.sep⟩
  rcases h.left with h0 | ⟨b1, o, hA, hlt, hc⟩
  · exact .inl h0
  · rcases Nat.eq_zero_or_pos t.q.leftL.length with h0 | h0
    · exact .inl h0
    · have hne : b1 ≠ b := fun e => by
        subst e
        have h1 := hc 0 h0
        have h2 := hb.cell (o + 0)
        rw [h1] at h2
        cases o with
        | zero => simp at h2
        | succ o => simp at h2
      exact .inr ⟨b1, o, hA, by simpa [World.setCell] using hlt, fun j hj => (World.cell?_of_block (a := ⟨b1, _, none⟩) (hk b1 hne)).trans (hc j hj)⟩
set_option maxHeartbeats 16000000 in
set_option maxRecDepth 100000 in
theorem decideP9_any (Aw Af Ao Ap As : Option Addr) (cw cf co cp cs : Nat) (t : Pt) (n : Int) (w : World) (hs : t.Small) (hT : PAt w Aw Af Ao Ap As t) (hB : TabAt w) :
    Calls Tryz.prog 59 #[.agg #[.int .i64 t.q.wells, .slice Aw t.q.nw cw, .slice Af t.q.nf cf, .slice Ao t.no co, .slice Ap t.np cp, .slice As t.ns cs, .int .i64 t.far, .int .i64 t.harm, .int .i64 t.many], .int .i64 n] w fun e w' => RefLst w' (t.decErr n) (t.decL n) e ∧ Below w.heap.size w w' := by
  obtain ⟨bb, hbb⟩ : ∃ b, t.hasB n = b := ⟨_, rfl⟩
  obtain ⟨er, her⟩ : ∃ v, t.knowErr bb = v := ⟨_, rfl⟩
  have HC1 := Lib.hid (fun w => hbb ▸ hasP_any Aw Af Ao Ap As cw cf co cp cs t n w hs.ns : ∀ w : World, Calls Tryz.prog 87 #[.agg #[.int .i64 t.q.wells, .slice Aw t.q.nw cw, .slice Af t.q.nf cf, .slice Ao t.no co, .slice Ap t.np cp, .slice As t.ns cs, .int .i64 t.far, .int .i64 t.harm, .int .i64 t.many], .int .i64 n] w fun e w' => e = .returned (.bool bb) ∧ Below w.heap.size w w')
  have HE := Lib.hid (show t.decErr n = if er = 0 then (if t.decB n.toNat t.q.tests then 0 else 3) else er by unfold Pt.decErr; rw [hbb, her])
  have HER := Lib.hid her
  have HBB := Lib.hid hbb
  clear hbb her
  have HD0 := Lib.hid (Below.refl w.heap.size w)
  have HSM := Lib.hid hs
  have HT0 := Lib.hid hT
  have HTB0 := Lib.hid hB
  clear hs hT hB
  go_enter Tryz.func59, Tryz.ntmps59
  by_cases he : er = 0
  case neg =>
    have g0 : (er != 0) = true := by simp [he]
    have HNZ := Lib.hid he
    have HR := Lib.hid (HE.out.trans (if_neg he))
    clear he
    go_wp2_with fail
    have HCO := Lib.hid (fun (w' : World) (hb : Below ((w.alloc (.cells #[.int .i64 t.q.wells, .slice Aw t.q.nw cw, .slice Af t.q.nf cf, .slice Ao t.no co, .slice Ap t.np cp, .slice As t.ns cs, .int .i64 t.far, .int .i64 t.harm, .int .i64 t.many] 29)).alloc (.cells #[.int .i64 n] 3)).heap.size ((w.alloc (.cells #[.int .i64 t.q.wells, .slice Aw t.q.nw cw, .slice Af t.q.nf cf, .slice Ao t.no co, .slice Ap t.np cp, .slice As t.ns cs, .int .i64 t.far, .int .i64 t.harm, .int .i64 t.many] 29)).alloc (.cells #[.int .i64 n] 3)) w') => ((openP_any Aw Af Ao Ap As cw cf co cp cs t bb w' HSM.out ((HT0.out.mono (bAlloc (bAlloc (Below.refl _ _) (.cells #[.int .i64 t.q.wells, .slice Aw t.q.nw cw, .slice Af t.q.nf cf, .slice Ao t.no co, .slice Ap t.np cp, .slice As t.ns cs, .int .i64 t.far, .int .i64 t.harm, .int .i64 t.many] 29)) (.cells #[.int .i64 n] 3))).mono hb) ((HTB0.out.mono (bAlloc (bAlloc (Below.refl _ _) (.cells #[.int .i64 t.q.wells, .slice Aw t.q.nw cw, .slice Af t.q.nf cf, .slice Ao t.no co, .slice Ap t.np cp, .slice As t.ns cs, .int .i64 t.far, .int .i64 t.harm, .int .i64 t.many] 29)) (.cells #[.int .i64 n] 3))).mono hb)).mono fun e w'' h => ⟨(HER.out ▸ h.1 : StrOut w'' w'.heap.size Aw Af Ao Ap As cw cf co cp cs t er e), h.2⟩ : Calls Tryz.prog 94 #[.agg #[.int .i64 t.q.wells, .slice Aw t.q.nw cw, .slice Af t.q.nf cf, .slice Ao t.no co, .slice Ap t.np cp, .slice As t.ns cs, .int .i64 t.far, .int .i64 t.harm, .int .i64 t.many], .bool bb] w' fun e w'' => StrOut w'' w'.heap.size Aw Af Ao Ap As cw cf co cp cs t er e ∧ Below w'.heap.size w' w''))
    refine wp_region_late 9 7 [.const (.agg #[.int .i64 t.q.wells, .slice Aw t.q.nw cw, .slice Af t.q.nf cf, .slice Ao t.no co, .slice Ap t.np cp, .slice As t.ns cs, .int .i64 t.far, .int .i64 t.harm, .int .i64 t.many]), .const (.agg #[.int .i64 t.q.wells, .slice Aw t.q.nw cw, .slice Af t.q.nf cf, .slice Ao t.no co, .slice Ap t.np cp, .slice As t.ns cs, .int .i64 t.far, .int .i64 t.harm, .int .i64 t.many]), .const (.int .i64 n), .const (.bool bb), .const (.tuple #[.pointer none, .int .i64 er]), .const (.tuple #[.pointer none, .int .i64 er]), .const (.pointer none), .const (.int .i64 er), .held boxS (boxR ((w.alloc (.cells #[.int .i64 t.q.wells, .slice Aw t.q.nw cw, .slice Af t.q.nf cf, .slice Ao t.no co, .slice Ap t.np cp, .slice As t.ns cs, .int .i64 t.far, .int .i64 t.harm, .int .i64 t.many] 29)).alloc (.cells #[.int .i64 n] 3)).heap.size 98 #[.pointer none])]
      (by kernel_rfl) (by kernel_rfl) rfl ⟨trivial, trivial, trivial, trivial, trivial, trivial, trivial, trivial, boxG, trivial⟩ (crossAll_no _ _ _ _ trivial) rfl rfl rfl (fun _ => ⟨_, _, _, _, rfl, rfl, rfl, rfl⟩) ?_
    iterate 3 refine wpStir_const (by go_simp) ?_
    refine wpStir_call rfl (fun w' hb hd => ?_) ?_
    · clear hd
      go_simp
      exact HC1.out w'
    refine wpStir_call rfl (fun w' hb hd => ?_) ?_
    · clear hd
      go_simp
      refine (HCO.out w' hb).mono ?_
      rintro e w'' ⟨ho, hb'⟩
      exact ⟨ho.1 HNZ.out, hb'⟩
    iterate 3 refine wpStir_const (by go_simp) ?_
    simp only [Act.put, List.setIfInBounds_toArray, List.set_cons_succ, List.set_cons_zero]
    refine wpStir_held rfl (fun w' hb hd => ?_) (fun v hv => ?_)
    · clear hd
      have hz := hb.size
      go_simp
      refine ⟨bAlloc (Below.refl _ _) _, ⟨_, rfl⟩, fun b e => ?_⟩
      obtain rfl : w'.heap.size = b := by simpa using e
      exact ⟨by simpa using hz, TBox.new _ _ _⟩
    obtain ⟨bx, rfl⟩ := hv
    refine wpStir_end (fun w55 hb5 hd => ?_)
    obtain ⟨hbx, htb⟩ := hd.1 _ rfl
    clear hd
    have hx0 : w55.cell? ⟨bx, 0, none⟩ = some (.pointer none) := htb.cell 0
    have hf0 := htb.frozen 0
    have hxl := htb.lt
    simp only [Act.put, List.setIfInBounds_toArray, List.set_cons_succ, List.set_cons_zero, List.drop_succ_cons, List.drop_zero]
    refine ⟨w55.setCell ⟨bx, 0, none⟩ (.pointer none), by go_simp, ?_⟩
    have htb2 := htb.set 0 (.pointer none)
    have hb : Below ((w.alloc (.cells #[.int .i64 t.q.wells, .slice Aw t.q.nw cw, .slice Af t.q.nf cf, .slice Ao t.no co, .slice Ap t.np cp, .slice As t.ns cs, .int .i64 t.far, .int .i64 t.harm, .int .i64 t.many] 29)).alloc (.cells #[.int .i64 n] 3)).heap.size ((w.alloc (.cells #[.int .i64 t.q.wells, .slice Aw t.q.nw cw, .slice Af t.q.nf cf, .slice Ao t.no co, .slice Ap t.np cp, .slice As t.ns cs, .int .i64 t.far, .int .i64 t.harm, .int .i64 t.many] 29)).alloc (.cells #[.int .i64 n] 3)) (w55.setCell ⟨bx, 0, none⟩ (.pointer none)) := Below.setCell (p := ⟨bx, 0, none⟩) hb5 hbx (.pointer none)
    generalize w55.setCell ⟨bx, 0, none⟩ (.pointer none) = w1 at htb2 hb ⊢
    have hB1 : Below w.heap.size w w1 := bTrans (bAlloc (bAlloc (Below.refl _ _) (.cells #[.int .i64 t.q.wells, .slice Aw t.q.nw cw, .slice Af t.q.nf cf, .slice Ao t.no co, .slice Ap t.np cp, .slice As t.ns cs, .int .i64 t.far, .int .i64 t.harm, .int .i64 t.many] 29)) (.cells #[.int .i64 n] 3)) hb
    have HD1 := Lib.hid (bTrans HD0.out hB1)
    have HT1 := Lib.hid (HT0.out.mono hB1)
    have HTB1 := Lib.hid (HTB0.out.mono hB1)
    have S1 := Lib.hid ((show TBox w1 bx 98 #[.pointer none] from htb2))
    have T1 := Lib.hid (show TBox w1 w.heap.size 29 #[.int .i64 t.q.wells, .slice Aw t.q.nw cw, .slice Af t.q.nf cf, .slice Ao t.no co, .slice Ap t.np cp, .slice As t.ns cs, .int .i64 t.far, .int .i64 t.harm, .int .i64 t.many] from by have := ((TBox.new w #[.int .i64 t.q.wells, .slice Aw t.q.nw cw, .slice Af t.q.nf cf, .slice Ao t.no co, .slice Ap t.np cp, .slice As t.ns cs, .int .i64 t.far, .int .i64 t.harm, .int .i64 t.many] 29).mono (bAlloc (Below.refl _ _) (.cells #[.int .i64 n] 3))).mono hb; simpa using this)
    have I1 := Lib.hid (show TBox w1 (w.heap.size + 1) 3 #[.int .i64 n] from by have := ((TBox.new (w.alloc (.cells #[.int .i64 t.q.wells, .slice Aw t.q.nw cw, .slice Af t.q.nf cf, .slice Ao t.no co, .slice Ap t.np cp, .slice As t.ns cs, .int .i64 t.far, .int .i64 t.harm, .int .i64 t.many] 29)) #[.int .i64 n] 3).mono (Below.refl _ _)).mono hb; simpa using this)
    clear hb hB1 HD0 HT0 HTB0
    obtain ⟨T_0, T_1, T_2, T_3, T_4, T_5, T_6, T_7, T_8, T_l⟩ := T1.out.c9
    obtain ⟨I_0, I_l⟩ := I1.out.c1
    clear htb htb2 hx0 hf0 hxl hb5 hbx
    obtain ⟨S_0, S_l⟩ := S1.out.c1
    go_wp2_with fail
    go_ret2
    exact ⟨⟨fun h => absurd (HR.out.symm.trans h) HNZ.out, fun _ => by rw [HR.out]; rfl⟩, HD1.out⟩
  subst he
  have HEZ := Lib.hid (HE.out.trans (if_pos rfl))
  obtain ⟨ok, rfl, hne⟩ := Pt.knowErr_zero HER.out
  have HOK := Lib.hid ok
  have hn := hasB_iff.1 HBB.out
  obtain ⟨i, rfl⟩ : ∃ i : Nat, n = (i : Int) := ⟨n.toNat, by omega⟩
  have HI := Lib.hid (show i < t.ns by omega)
  rw [Int.toNat_natCast] at HEZ
  clear ok hn hne
  go_wp2_with fail
  have HCO := Lib.hid (fun (w' : World) (hb : Below ((w.alloc (.cells #[.int .i64 t.q.wells, .slice Aw t.q.nw cw, .slice Af t.q.nf cf, .slice Ao t.no co, .slice Ap t.np cp, .slice As t.ns cs, .int .i64 t.far, .int .i64 t.harm, .int .i64 t.many] 29)).alloc (.cells #[.int .i64 (i : Int)] 3)).heap.size ((w.alloc (.cells #[.int .i64 t.q.wells, .slice Aw t.q.nw cw, .slice Af t.q.nf cf, .slice Ao t.no co, .slice Ap t.np cp, .slice As t.ns cs, .int .i64 t.far, .int .i64 t.harm, .int .i64 t.many] 29)).alloc (.cells #[.int .i64 (i : Int)] 3)) w') => ((openP_any Aw Af Ao Ap As cw cf co cp cs t true w' HSM.out ((HT0.out.mono (bAlloc (bAlloc (Below.refl _ _) (.cells #[.int .i64 t.q.wells, .slice Aw t.q.nw cw, .slice Af t.q.nf cf, .slice Ao t.no co, .slice Ap t.np cp, .slice As t.ns cs, .int .i64 t.far, .int .i64 t.harm, .int .i64 t.many] 29)) (.cells #[.int .i64 (i : Int)] 3))).mono hb) ((HTB0.out.mono (bAlloc (bAlloc (Below.refl _ _) (.cells #[.int .i64 t.q.wells, .slice Aw t.q.nw cw, .slice Af t.q.nf cf, .slice Ao t.no co, .slice Ap t.np cp, .slice As t.ns cs, .int .i64 t.far, .int .i64 t.harm, .int .i64 t.many] 29)) (.cells #[.int .i64 (i : Int)] 3))).mono hb)).mono fun e w'' h => ⟨(HER.out ▸ h.1 : StrOut w'' w'.heap.size Aw Af Ao Ap As cw cf co cp cs t 0 e), h.2⟩ : Calls Tryz.prog 94 #[.agg #[.int .i64 t.q.wells, .slice Aw t.q.nw cw, .slice Af t.q.nf cf, .slice Ao t.no co, .slice Ap t.np cp, .slice As t.ns cs, .int .i64 t.far, .int .i64 t.harm, .int .i64 t.many], .bool true] w' fun e w'' => StrOut w'' w'.heap.size Aw Af Ao Ap As cw cf co cp cs t 0 e ∧ Below w'.heap.size w' w''))
  refine wp_region_late 9 7 [.const (.agg #[.int .i64 t.q.wells, .slice Aw t.q.nw cw, .slice Af t.q.nf cf, .slice Ao t.no co, .slice Ap t.np cp, .slice As t.ns cs, .int .i64 t.far, .int .i64 t.harm, .int .i64 t.many]), .const (.agg #[.int .i64 t.q.wells, .slice Aw t.q.nw cw, .slice Af t.q.nf cf, .slice Ao t.no co, .slice Ap t.np cp, .slice As t.ns cs, .int .i64 t.far, .int .i64 t.harm, .int .i64 t.many]), .const (.int .i64 (i : Int)), .const (.bool true), .held strS (strR Aw Af Ao Ap As cw cf co cp cs t), .held strS (strR Aw Af Ao Ap As cw cf co cp cs t), .held stpS (stpR Aw Af Ao Ap As cw cf co cp cs t), .const (.int .i64 0), .held boxS (boxR ((w.alloc (.cells #[.int .i64 t.q.wells, .slice Aw t.q.nw cw, .slice Af t.q.nf cf, .slice Ao t.no co, .slice Ap t.np cp, .slice As t.ns cs, .int .i64 t.far, .int .i64 t.harm, .int .i64 t.many] 29)).alloc (.cells #[.int .i64 (i : Int)] 3)).heap.size 98 #[.pointer none])]
    (by kernel_rfl) (by kernel_rfl) rfl ⟨trivial, trivial, trivial, trivial, strG, strG, stpG, trivial, boxG, trivial⟩ (crossAll_no _ _ _ _ trivial) rfl rfl rfl (fun _ => ⟨_, _, _, _, rfl, rfl, rfl, rfl⟩) ?_
  iterate 3 refine wpStir_const (by go_simp) ?_
  refine wpStir_call rfl (fun w' hb hd => ?_) ?_
  · clear hd
    go_simp
    exact HC1.out w'
  refine wpStir_held rfl (fun w' hb hd => ?_) (fun v hv => ?_)
  · clear hd
    go_simp
    refine (HCO.out w' hb).mono ?_
    rintro e w'' ⟨ho, hb'⟩
    obtain ⟨C, Al, cl, rfl, hst, _⟩ := ho.2 rfl
    refine ⟨_, rfl, hb', ⟨_, rfl⟩, fun C' e => ?_⟩
    obtain rfl : C = C' := by simpa using e
    exact ⟨Al, cl, hst⟩
  obtain ⟨C0, rfl⟩ := hv
  refine wpStir_held rfl (fun w' hb hd => ?_) (fun v hv => ?_)
  · have hs0 : strR Aw Af Ao Ap As cw cf co cp cs t w' _ := hd.1 (by kernel_rfl)
    clear hd
    go_simp
    first | exact ⟨⟨_, rfl⟩, hs0⟩ | exact ⟨_, rfl⟩
  obtain ⟨C1, rfl⟩ := hv
  refine wpStir_held rfl (fun w' hb hd => ?_) (fun v hv => ?_)
  · have hs0 := (show strR Aw Af Ao Ap As cw cf co cp cs t w' (.tuple #[.pointer (some ⟨C1, 0, none⟩), .int .i64 0]) from hd.1 (by kernel_rfl)) C1 rfl
    clear hd
    go_simp
    refine ⟨⟨_, rfl⟩, fun C' e => ?_⟩
    obtain rfl : C1 = C' := by simpa using e
    exact hs0
  obtain ⟨C, rfl⟩ := hv
  refine wpStir_const (by go_simp) ?_
  simp only [Act.put, List.setIfInBounds_toArray, List.set_cons_succ, List.set_cons_zero]
  refine wpStir_held rfl (fun w' hb hd => ?_) (fun v hv => ?_)
  · clear hd
    have hz := hb.size
    go_simp
    refine ⟨bAlloc (Below.refl _ _) _, ⟨_, rfl⟩, fun b e => ?_⟩
    obtain rfl : w'.heap.size = b := by simpa using e
    exact ⟨by simpa using hz, TBox.new _ _ _⟩
  obtain ⟨bx, rfl⟩ := hv
  refine wpStir_end (fun w55 hb5 hd => ?_)
  obtain ⟨hbx, htb⟩ := hd.1 _ rfl
  obtain ⟨Al, cl, hst⟩ := (show stpR Aw Af Ao Ap As cw cf co cp cs t w55 (.pointer (some ⟨C, 0, none⟩)) from hd.2.1) C rfl
  clear hd
  have hx0 : w55.cell? ⟨bx, 0, none⟩ = some (.pointer none) := htb.cell 0
  have hf0 := htb.frozen 0
  have hxl := htb.lt
  simp only [Act.put, List.setIfInBounds_toArray, List.set_cons_succ, List.set_cons_zero, List.drop_succ_cons, List.drop_zero]
  refine ⟨w55.setCell ⟨bx, 0, none⟩ (.pointer (some ⟨C, 0, none⟩)), by go_simp, ?_⟩
  have htb2 := htb.set 0 (.pointer (some ⟨C, 0, none⟩))
  have hb : Below ((w.alloc (.cells #[.int .i64 t.q.wells, .slice Aw t.q.nw cw, .slice Af t.q.nf cf, .slice Ao t.no co, .slice Ap t.np cp, .slice As t.ns cs, .int .i64 t.far, .int .i64 t.harm, .int .i64 t.many] 29)).alloc (.cells #[.int .i64 (i : Int)] 3)).heap.size ((w.alloc (.cells #[.int .i64 t.q.wells, .slice Aw t.q.nw cw, .slice Af t.q.nf cf, .slice Ao t.no co, .slice Ap t.np cp, .slice As t.ns cs, .int .i64 t.far, .int .i64 t.harm, .int .i64 t.many] 29)).alloc (.cells #[.int .i64 (i : Int)] 3)) (w55.setCell ⟨bx, 0, none⟩ (.pointer (some ⟨C, 0, none⟩))) := Below.setCell (p := ⟨bx, 0, none⟩) hb5 hbx (.pointer (some ⟨C, 0, none⟩))
  have hst2 := hst.setNew htb (.pointer (some ⟨C, 0, none⟩)) ((HT0.out.mono (bAlloc (bAlloc (Below.refl _ _) (.cells #[.int .i64 t.q.wells, .slice Aw t.q.nw cw, .slice Af t.q.nf cf, .slice Ao t.no co, .slice Ap t.np cp, .slice As t.ns cs, .int .i64 t.far, .int .i64 t.harm, .int .i64 t.many] 29)) (.cells #[.int .i64 (i : Int)] 3))).mono hb)
  generalize w55.setCell ⟨bx, 0, none⟩ (.pointer (some ⟨C, 0, none⟩)) = w1 at htb2 hb hst2 ⊢
  have hB1 : Below w.heap.size w w1 := bTrans (bAlloc (bAlloc (Below.refl _ _) (.cells #[.int .i64 t.q.wells, .slice Aw t.q.nw cw, .slice Af t.q.nf cf, .slice Ao t.no co, .slice Ap t.np cp, .slice As t.ns cs, .int .i64 t.far, .int .i64 t.harm, .int .i64 t.many] 29)) (.cells #[.int .i64 (i : Int)] 3)) hb
  have HD1 := Lib.hid (bTrans HD0.out hB1)
  have HT1 := Lib.hid (HT0.out.mono hB1)
  have HTB1 := Lib.hid (HTB0.out.mono hB1)
  have S1 := Lib.hid ((show TBox w1 bx 98 #[.pointer (some ⟨C, 0, none⟩)] from htb2))
  have HST1 := Lib.hid (hst2)
  have T1 := Lib.hid (show TBox w1 w.heap.size 29 #[.int .i64 t.q.wells, .slice Aw t.q.nw cw, .slice Af t.q.nf cf, .slice Ao t.no co, .slice Ap t.np cp, .slice As t.ns cs, .int .i64 t.far, .int .i64 t.harm, .int .i64 t.many] from by have := ((TBox.new w #[.int .i64 t.q.wells, .slice Aw t.q.nw cw, .slice Af t.q.nf cf, .slice Ao t.no co, .slice Ap t.np cp, .slice As t.ns cs, .int .i64 t.far, .int .i64 t.harm, .int .i64 t.many] 29).mono (bAlloc (Below.refl _ _) (.cells #[.int .i64 (i : Int)] 3))).mono hb; simpa using this)
  have I1 := Lib.hid (show TBox w1 (w.heap.size + 1) 3 #[.int .i64 (i : Int)] from by have := ((TBox.new (w.alloc (.cells #[.int .i64 t.q.wells, .slice Aw t.q.nw cw, .slice Af t.q.nf cf, .slice Ao t.no co, .slice Ap t.np cp, .slice As t.ns cs, .int .i64 t.far, .int .i64 t.harm, .int .i64 t.many] 29)) #[.int .i64 (i : Int)] 3).mono (Below.refl _ _)).mono hb; simpa using this)
  clear hb hB1 HD0 HT0 HTB0
  obtain ⟨T_0, T_1, T_2, T_3, T_4, T_5, T_6, T_7, T_8, T_l⟩ := T1.out.c9
  obtain ⟨I_0, I_l⟩ := I1.out.c1
  clear htb htb2 hx0 hf0 hxl hb5 hbx
  obtain ⟨S_0, S_l⟩ := S1.out.c1
  go_wp2_with fail
  have HMW := Lib.hid (Pt.m_wells HOK.out)
  have hm4 : t.m ≤ 4 := by have := HOK.out.q.w1; have := HMW.out; omega
  clear T_0 T_1 T_2 T_3 T_4 T_5 T_6 T_7 T_8 T_l I_0 I_l S_0 S_l
  go_loopw [8, 29] (fun s8 s29 wr => ∃ k : Nat, k ≤ t.m ∧ s29 = .int .i64 (k : Int) ∧ OwnE tstE wr w1.heap.size s8 (testsTo t.m k 0) ∧ Below w1.heap.size w1 wr) (fun _ s29 _ => t.m - (intOf s29).toNat)
  case atStart => exact ⟨0, Nat.zero_le _, rfl, OwnE.nil _ _ _, Below.refl _ _⟩
  case round =>
    obtain ⟨k, hk_k, rfl, hown, hb⟩ := hrel
    have HBk := Lib.hid hb
    have HOWN := Lib.hid hown
    clear hown
    have hB2 : Below w1.heap.size w1 wr := bTrans (Below.refl _ _) hb
    have HD2 := Lib.hid (bTrans HD1.out hB2)
    have HT2 := Lib.hid (HT1.out.mono hB2)
    have HTB2 := Lib.hid (HTB1.out.mono hB2)
    have HST2 := Lib.hid (HST1.out.mono hB2)
    have HU_k2 := Lib.hid ((show Upto w1 wr from HBk.out))
    have T2 := Lib.hid (T1.out.mono hB2)
    have I2 := Lib.hid (I1.out.mono hB2)
    have S2 := Lib.hid (S1.out.mono hB2)
    clear hb hB2
    obtain ⟨T_0, T_1, T_2, T_3, T_4, T_5, T_6, T_7, T_8, T_l⟩ := T2.out.c9
    obtain ⟨I_0, I_l⟩ := I2.out.c1
    obtain ⟨S_0, S_l⟩ := S2.out.c1
    by_cases hlt_k : k < t.m
    case pos =>
      have h1_k : (k : Int) < (t.m : Int) := by omega
      have h0_k : (0 : Int) ≤ (k : Int) := by omega
      have hb_k : k < 100 := by omega
      have hkw : (k : Int) < t.q.wells := by have := HMW.out; omega
      go_wp2_with fail
      clear T_0 T_1 T_2 T_3 T_4 T_5 T_6 T_7 T_8 T_l I_0 I_l S_0 S_l
      go_loopw [8, 35] (fun s8 s35 wx => ∃ j : Nat, j ≤ t.m ∧ s35 = .int .i64 (j : Int) ∧ OwnE tstE wx w1.heap.size s8 (testsTo t.m k j) ∧ Below w1.heap.size w1 wx) (fun _ s35 _ => t.m - (intOf s35).toNat)
      case atStart => exact ⟨0, Nat.zero_le _, rfl, HOWN.out, HU_k2.out⟩
      case round =>
        obtain ⟨j, hj, rfl, hown2, hbel2⟩ := hrel
        have HO2 := Lib.hid hown2
        have HL2 := Lib.hid hbel2
        have hz2 := hbel2.size
        clear hown2 hbel2
        by_cases hjm : j < t.m
        case pos =>
          have j1 : (j : Int) < t.q.wells := by have := HMW.out; omega
          have HLE := Lib.hid (show (testsTo t.m k j).length ≤ 100000 by rw [testsTo_len]; have : k * t.m ≤ 4 * 4 := Nat.mul_le_mul (by omega) hm4; omega)
          go_wp2_with (at_builtin; refine wpList_snocE tstG _ rfl (Operand.tmp 38) (Operand.tmp 42) rfl w1.heap.size _ (testsTo t.m k j) (k, j) rfl ?q1 wr.heap.size rfl ?q2 HLE.out ?q4 ?_)
          case q1 => exact HO2.out.mono (bAlloc (Below.refl _ _) _)
          case q2 =>
            intro a u hu
            match a, hu with
            | 0, hu =>
              obtain rfl : Value.int .i64 k = u := by simpa [tstE] using hu
              simp [go_sem]
            | 1, hu =>
              obtain rfl : Value.int .i64 j = u := by simpa [tstE] using hu
              simp [go_sem]
          case q4 => simp; omega
          intro v' w57 hown5 hb57 _ _
          have HO5 := Lib.hid ((testsTo_snoc t.m k j) ▸ hown5)
          have HL5 := Lib.hid (hb57 (w1.heap.size) w1 (Nat.le_refl _) (HL2.out.trans ((bAlloc (Below.refl wr.heap.size wr) _).mono hz2)))
          clear hown5 hb57
          go_wp2_with fail
          go_roundw
          case rel =>
            first
            | exact ⟨j + 1, by omega, by go_num, HO5.out, HL5.out⟩
            | ((repeat apply Exists.intro)
               refine ⟨⟨j + 1, by omega, ?_, HO5.out, HL5.out⟩, rfl⟩
               go_num)
          case measure => simp [intOf]; omega
        have hje : j = t.m := by omega
        have HO5 := Lib.hid (show OwnE tstE wr w1.heap.size _ (testsTo t.m (k + 1) 0) from testsTo_row t.m k ▸ hje ▸ HO2.out)
        have j1 : ¬ (j : Int) < t.q.wells := by have := HMW.out; omega
        clear hje
        go_wp2_with fail
        go_roundw
        case rel =>
          first
          | exact ⟨k + 1, by omega, by go_num, HO5.out, HL2.out⟩
          | ((repeat apply Exists.intro)
             refine ⟨⟨k + 1, by omega, ?_, HO5.out, HL2.out⟩, rfl⟩
             go_num)
        case measure => simp [intOf]; omega
    have he_k : k = t.m := by omega
    have hk1 : ¬ (k : Int) < t.q.wells := by have := HMW.out; omega
    have hts : OwnE tstE wr w1.heap.size _ t.q.tests := (show testsTo t.m t.m 0 = t.q.tests from testsTo_all t.m) ▸ (he_k ▸ HOWN.out)
    obtain ⟨A5, c5, e5, hr5, hc5, hm5⟩ := own_cap hts
    have hz16 := tests_len HOK.out.q
    obtain ⟨z, hz⟩ : ∃ z, t.q.tests.length = z := ⟨_, rfl⟩
    rw [hz] at e5 hc5 hz16
    subst e5
    have HZ := Lib.hid hz
    have HRW2 := Lib.hid hr5
    have HC5 := Lib.hid hc5
    have HM5 := Lib.hid hm5
    clear hr5 hts hz HOWN hc5 hm5 he_k
    obtain ⟨bz, hbz⟩ : ∃ b, t.decB i t.q.tests = b := ⟨_, rfl⟩
    have HBZ := Lib.hid hbz
    clear hbz
    go_wp2_with fail
    refine ((by have := decideP_any C Aw Af Ao Ap As cw cf co cp cs t Al cl i A5 c5 t.q.tests wr HST2.out HOK.out HI.out (tests_ok5 HOK.out.q) HRW2.out (by rw [HZ.out]; omega); rw [HBZ.out, HZ.out] at this; exact this : Calls Tryz.prog 111 #[.pointer (some ⟨C, 0, none⟩), .int .i64 (i : Int), .slice A5 z c5] wr fun e w' => e = .returned (.bool bz) ∧ Below wr.heap.size wr w')).mono ?_
    rintro e w3 ⟨rfl, hb⟩
    have hB3 : Below wr.heap.size wr w3 := bTrans (Below.refl _ _) hb
    have HD3 := Lib.hid (bTrans HD2.out hB3)
    have HT3 := Lib.hid (HT2.out.mono hB3)
    have HTB3 := Lib.hid (HTB2.out.mono hB3)
    have HST3 := Lib.hid (HST2.out.mono hB3)
    have HU_k3 := Lib.hid (HU_k2.out.mono hB3)
    have HRW3 := Lib.hid (HRW2.out.mono hB3)
    have T3 := Lib.hid (T2.out.mono hB3)
    have I3 := Lib.hid (I2.out.mono hB3)
    have S3 := Lib.hid (S2.out.mono hB3)
    clear hb hB3 HD2 HT2 HTB2 HST2 HU_k2 HRW2 T2 T_0 T_1 T_2 T_3 T_4 T_5 T_6 T_7 T_8 T_l I2 I_0 I_l S2 S_0 S_l
    obtain ⟨T_0, T_1, T_2, T_3, T_4, T_5, T_6, T_7, T_8, T_l⟩ := T3.out.c9
    obtain ⟨I_0, I_l⟩ := I3.out.c1
    obtain ⟨S_0, S_l⟩ := S3.out.c1
    cases bz
    case false =>
      have HR := Lib.hid (show t.decErr (i : Int) = 3 by rw [HEZ.out, HBZ.out]; rfl)
      go_wp2_with fail
      go_ret2
      exact ⟨⟨fun h => absurd (HR.out.symm.trans h) (by decide), fun _ => by rw [HR.out]; rfl⟩, HD3.out⟩
    have HR := Lib.hid (show t.decErr (i : Int) = 0 by rw [HEZ.out, HBZ.out]; rfl)
    obtain ⟨p, hp⟩ : ∃ p : List Tp → Bool, p = fun x => t.decB i x := ⟨_, rfl⟩
    have HP := Lib.hid hp
    have HDL := Lib.hid (show t.decL (i : Int) = fewestL t.q.tests p by unfold Pt.decL; rw [hp, Int.toNat_natCast])
    clear hp
    go_wp2_with fail
    obtain ⟨wl289, hwl⟩ : ∃ y, y = wr := ⟨_, rfl⟩
    subst hwl
    clear T_0 T_1 T_2 T_3 T_4 T_5 T_6 T_7 T_8 T_l I_0 I_l S_0 S_l
    go_loopw [54] (fun s54 wr => ∃ h : Nat, h ≤ z ∧ s54 = .int .i64 (h : Int) ∧ firstUpTo t.q.tests p 0 h = none ∧ Below (w3.alloc (.cells #[.func (.func 112) #[] #[.pointer (some ⟨bx, 0, none⟩), .pointer (some ⟨(w.heap.size + 1), 0, none⟩), .pointer (some ⟨w3.heap.size, 0, none⟩)]] 120)).heap.size (w3.alloc (.cells #[.func (.func 112) #[] #[.pointer (some ⟨bx, 0, none⟩), .pointer (some ⟨(w.heap.size + 1), 0, none⟩), .pointer (some ⟨w3.heap.size, 0, none⟩)]] 120)) wr) (fun s54 _ => z - (intOf s54).toNat)
    case atStart => exact ⟨0, Nat.zero_le _, rfl, rfl, Below.refl _ _⟩
    case round =>
      obtain ⟨h, hk_h, rfl, hno, hb⟩ := hrel
      have HBh := Lib.hid hb
      have HNO := Lib.hid hno
      clear hno
      have hB4 : Below w3.heap.size w3 wr := bTrans (bAlloc (Below.refl _ _) (.cells #[.func (.func 112) #[] #[.pointer (some ⟨bx, 0, none⟩), .pointer (some ⟨(w.heap.size + 1), 0, none⟩), .pointer (some ⟨w3.heap.size, 0, none⟩)]] 120)) hb
      have HD4 := Lib.hid (bTrans HD3.out hB4)
      have HT4 := Lib.hid (HT3.out.mono hB4)
      have HTB4 := Lib.hid (HTB3.out.mono hB4)
      have HST4 := Lib.hid (HST3.out.mono hB4)
      have HU_k4 := Lib.hid (HU_k3.out.mono hB4)
      have HRW4 := Lib.hid (HRW3.out.mono hB4)
      have HU_h4 := Lib.hid ((show Upto (w3.alloc (.cells #[.func (.func 112) #[] #[.pointer (some ⟨bx, 0, none⟩), .pointer (some ⟨(w.heap.size + 1), 0, none⟩), .pointer (some ⟨w3.heap.size, 0, none⟩)]] 120)) wr from HBh.out))
      have T4 := Lib.hid (T3.out.mono hB4)
      have I4 := Lib.hid (I3.out.mono hB4)
      have S4 := Lib.hid (S3.out.mono hB4)
      have F4 := Lib.hid (show TBox wr w3.heap.size 120 #[.func (.func 112) #[] #[.pointer (some ⟨bx, 0, none⟩), .pointer (some ⟨(w.heap.size + 1), 0, none⟩), .pointer (some ⟨w3.heap.size, 0, none⟩)]] from by have := ((TBox.new w3 #[.func (.func 112) #[] #[.pointer (some ⟨bx, 0, none⟩), .pointer (some ⟨(w.heap.size + 1), 0, none⟩), .pointer (some ⟨w3.heap.size, 0, none⟩)]] 120).mono (Below.refl _ _)).mono hb; simpa using this)
      clear hb hB4
      obtain ⟨T_0, T_1, T_2, T_3, T_4, T_5, T_6, T_7, T_8, T_l⟩ := T4.out.c9
      obtain ⟨I_0, I_l⟩ := I4.out.c1
      obtain ⟨S_0, S_l⟩ := S4.out.c1
      obtain ⟨F_0, F_l⟩ := F4.out.c1
      by_cases hlt_h : h < z
      case pos =>
        have h1_h : (h : Int) < (z : Int) := by omega
        have h0_h : (0 : Int) ≤ (h : Int) := by omega
        have hb_h : h < 100 := by omega
        obtain ⟨r, hr⟩ : ∃ r, (listsL t.q.tests h).find? p = r := ⟨_, rfl⟩
        have HRR := Lib.hid hr
        clear hr
        have HFC := Lib.hid (show Calls Tryz.prog 112 #[.slice none 0 0, .slice A5 z c5, .int .i64 (h : Int), .pointer (some ⟨bx, 0, none⟩), .pointer (some ⟨(w.heap.size + 1), 0, none⟩), .pointer (some ⟨w3.heap.size, 0, none⟩)] wr fun e w' => FindOut9 w' r [] e ∧ Below wr.heap.size wr w' from by
          have hf := find9_any (C := C) (Al := Al) (cl := cl) (bs := bx) (bp := (w.heap.size + 1)) (bf := w3.heap.size) HOK.out HI.out h [] none 0 t.q.tests A5 c5 wr ⟨HST4.out, BoxAt.one S4.out.lt (S4.out.cell 0), BoxAt.one I4.out.lt (I4.out.cell 0), BoxAt.one F4.out.lt (F4.out.cell 0)⟩ (.inl ⟨rfl, rfl, rfl⟩) (fun x hx => by cases hx) (by simp; omega) HRW4.out (by rw [HZ.out]; exact HC5.out) HM5.out (tests_ok5 HOK.out.q) (by rw [HZ.out]; omega)
          rw [HZ.out] at hf
          rw [← HRR.out, HP.out]
          exact hf)
        go_wp2_with fail
        refine (HFC.out).mono ?_
        rintro e w5 ⟨⟨ho1, ho2⟩, hb⟩
        have hB5 : Below wr.heap.size wr w5 := bTrans (Below.refl _ _) hb
        have HD5 := Lib.hid (bTrans HD4.out hB5)
        have HT5 := Lib.hid (HT4.out.mono hB5)
        have HTB5 := Lib.hid (HTB4.out.mono hB5)
        have HST5 := Lib.hid (HST4.out.mono hB5)
        have HU_k5 := Lib.hid (HU_k4.out.mono hB5)
        have HRW5 := Lib.hid (HRW4.out.mono hB5)
        have HU_h5 := Lib.hid (HU_h4.out.mono hB5)
        have T5 := Lib.hid (T4.out.mono hB5)
        have I5 := Lib.hid (I4.out.mono hB5)
        have S5 := Lib.hid (S4.out.mono hB5)
        have F5 := Lib.hid (F4.out.mono hB5)
        clear hb hB5 HD4 HT4 HTB4 HST4 HU_k4 HRW4 HU_h4 T4 T_0 T_1 T_2 T_3 T_4 T_5 T_6 T_7 T_8 T_l I4 I_0 I_l S4 S_0 S_l F4 F_0 F_l
        obtain ⟨T_0, T_1, T_2, T_3, T_4, T_5, T_6, T_7, T_8, T_l⟩ := T5.out.c9
        obtain ⟨I_0, I_l⟩ := I5.out.c1
        obtain ⟨S_0, S_l⟩ := S5.out.c1
        obtain ⟨F_0, F_l⟩ := F5.out.c1
        cases r with
        | none =>
          obtain ⟨v7, rfl⟩ := ho2 rfl
          have HF2 := Lib.hid (firstUpTo_none HNO.out HRR.out)
          clear ho1 ho2
          go_wp2_with fail
          go_roundw
          case rel =>
            first
            | exact ⟨h + 1, by omega, by go_num, HF2.out, HU_h5.out⟩
            | ((repeat apply Exists.intro)
               refine ⟨⟨h + 1, by omega, ?_, HF2.out, HU_h5.out⟩, rfl⟩
               go_num)
          case measure => simp [intOf]; omega
        | some x =>
          obtain ⟨A7, c7, rfl, hl2⟩ := ho1 x rfl
          have HL2 := Lib.hid (show LstAt w5 A7 c7 x from hl2)
          have HFF := Lib.hid (show t.decL (i : Int) = x by rw [HDL.out]; exact first_found HNO.out HRR.out (by rw [HZ.out]; omega))
          obtain ⟨m2, hm2⟩ : ∃ m2, ([] ++ x).length = m2 := ⟨_, rfl⟩
          have HM2 := Lib.hid hm2
          rw [hm2]
          clear ho1 ho2 hl2 hm2
          go_wp2_with fail
          go_ret2
          exact ⟨⟨fun _ => ⟨A7, c7, by rw [HR.out, HFF.out, show x.length = m2 from HM2.out]; rfl, by rw [HFF.out]; exact HL2.out.row⟩, fun hx => absurd HR.out hx⟩, HD5.out⟩
      have he_h : h = z := by omega
      have hk9 : ¬ (h : Int) < (z : Int) := by omega
      have hk8 : ¬ h < z := by omega
      have HFF := Lib.hid (show t.decL (i : Int) = t.q.tests by rw [HDL.out]; unfold fewestL; rw [HZ.out, ← he_h, HNO.out]; rfl)
      clear he_h
      go_wp2_with fail
      go_ret2
      exact ⟨⟨fun _ => ⟨A5, c5, by rw [HR.out, HFF.out, HZ.out]; rfl, by rw [HFF.out]; exact HRW4.out⟩, fun hx => absurd HR.out hx⟩, HD4.out⟩
end Go.Proofs.YtjpfdhhiofjpbaaGreatDoor

namespace Go.Proofs.YtjpfdhhiofjpbaaGreatDoor
open Go.RowKit Go.Sort
theorem decL_len {t : Pt} {n : Int} : (lstO (t.decErr n) (t.decL n)).length ≤ 100000 := by
  unfold lstO
  by_cases h0 : t.decErr n = 0
  · rw [if_pos h0]
    have ok : t.knowErr (t.hasB n) = 0 := by
      unfold Pt.decErr at h0
      by_cases hk : t.knowErr (t.hasB n) = 0
      · exact hk
      · rw [if_neg hk] at h0; exact h0
    have h1 := (fewestL_sub t.q.tests fun l => t.decB n.toNat l).length_le
    have h2 := tests_len (Pt.knowErr_zero ok).1.q
    unfold Pt.decL
    omega
  · rw [if_neg h0]
    simp
end Go.Proofs.YtjpfdhhiofjpbaaGreatDoor

namespace Go.Proofs.YtjpfdhhiofjpbaaGreatDoor
open Go.RowKit Go.Sort
theorem CopyAt9.setTy {w : World} {base : Nat} {vW vF vO vP vS : Value} {t : Pt} (h : CopyAt9 w base vW vF vO vP vS t) {b : Nat} (hb : ∃ cs, TBox w b 29 cs) (o : Nat) (u : Value) : CopyAt9 (w.setCell ⟨b, o, none⟩ u) base vW vF vO vP vS t := by
  obtain ⟨h1, h2, h3, us, h4, h5⟩ := h
  obtain ⟨cs, hx⟩ := hb
  have hb : ∃ cs, TBox w b 29 cs := ⟨cs, hx⟩
  exact ⟨h1.setTy hb o u, owns_setTy h2 hb (by decide) o u, owns_setTy h3 hb (by decide) o u, us, owns_setTy h4 hb (by decide) o u, h5.kept (Kept.set (l := [3, 26, 146]) hx (by decide) o u) (by simp) (by simp) (by simp)⟩
end Go.Proofs.YtjpfdhhiofjpbaaGreatDoor

namespace Go.Proofs.YtjpfdhhiofjpbaaGreatDoor
open Go.RowKit Go.Sort
theorem addSpot_small {t : Pt} (h : t.Small) (hn : t.ns + 1 ≤ 9223372036854775807) {x : Spot} (hx : x.Small) : (t.addSpot x).Small := ⟨h.q, h.no, h.np, hn, fun i hi => by
  show (if i < t.ns then t.spot i else x).Small
  split
  · exact h.spot i ‹_›
  · exact hx⟩
theorem SpRows.congr {w : World} {f f' : Nat → Spot} {n : Nat} {us : List Value} (h : SpRows w f n us) (e : ∀ i, i < n → f i = f' i) : SpRows w f' n us := by
  obtain ⟨L, h1, h2, h3⟩ := h
  refine ⟨L, h1, h2, fun i cs hi => ?_⟩
  rw [← e i (by rw [← h2]; exact (List.getElem?_eq_some_iff.1 hi).1)]
  exact h3 i cs hi
/-- a copied town whose row of spots has grown by one -/
theorem CopyAt9.more {w w' : World} {base : Nat} {vW vF vO vP vS vS' : Value} {t : Pt} {x : Spot} {us l : List Value} (h : CopyAt9 w base vW vF vO vP vS t) (hk : Kept [3, 26, 146, 128, 64] w w') (hrows : SpRows w t.spot t.ns us) (hown : w'.ownsRow base 60 7 vS' (t.ns + 1) (us ++ l)) (hl : SpK w' l x) : CopyAt9 w' base vW vF vO vP vS' (t.addSpot x) :=
  ⟨h.q.kept hk (by simp) (by simp) (by simp) (by simp), owns_kept h.old hk (by simp), owns_kept h.pence hk (by simp), us ++ l, hown, ((hrows.kept hk (by simp) (by simp) (by simp)).congr fun i hi => (addSpot_at t x hi).symm).snoc (by
    show SpK w' l (if t.ns < t.ns then t.spot t.ns else x)
    rw [if_neg (Nat.lt_irrefl _)]
    exact hl)⟩
theorem addSpot_err {t : Pt} {x : Spot} {s : Nat} (ok : t.Ok) (ok' : (t.addSpot x).Ok) (hs : s < t.ns) : (t.addSpot x).decErr (s : Int) = t.decErr (s : Int) := by
  have h1 : t.hasB (s : Int) = true := hasB_in hs
  have h2 : (t.addSpot x).hasB (s : Int) = true := hasB_in (show s < t.ns + 1 by omega)
  have h3 : (t.addSpot x).knowErr true = t.knowErr true := by
    unfold Pt.knowErr
    rw [Pt.askErr_ok ok, Pt.askErr_ok ok']
    rfl
  have h4 : (t.addSpot x).decB s (t.addSpot x).q.tests = t.decB s t.q.tests := addSpot_dec t x hs _
  unfold Pt.decErr
  rw [h1, h2, h3, Int.toNat_natCast, h4]
set_option maxHeartbeats 40000000 in
set_option maxRecDepth 100000 in
theorem placesSpot_any (Aw Af Ao Ap As : Option Addr) (cw cf co cp cs : Nat) (t : Pt) (Ar Af2 Ax : Option Addr) (cr cf2 cx : Nat) (x : Spot) (sp : Int) (w : World) (hs : t.Fits) (hT : PAt w Aw Af Ao Ap As t) (hB : TabAt w) (hN : NoneAt w) (hx : x.Fits) (hSh : ShAt w Ar Af2 x.sh) (hRw : RowsAt w Ax x.fl) :
    Calls Tryz.prog 15 #[.agg #[.int .i64 t.q.wells, .slice Aw t.q.nw cw, .slice Af t.q.nf cf, .slice Ao t.no co, .slice Ap t.np cp, .slice As t.ns cs, .int .i64 t.far, .int .i64 t.harm, .int .i64 t.many], .agg #[.int .i64 x.at_, .slice Ar x.sh.nr cr, .slice Af2 x.sh.nf cf2, .int .i64 x.sh.deep, .int .i64 x.sh.haul, .int .i64 x.sh.rest, .slice Ax x.fl.n cx], .int .i64 sp] w fun e w' => e = .returned (.bool true) ∧ Below w.heap.size w w' := by
  have HD0 := Lib.hid (Below.refl w.heap.size w)
  have HFI := Lib.hid hs
  have HT0 := Lib.hid hT
  have HTB0 := Lib.hid hB
  have HNA0 := Lib.hid hN
  have HXF := Lib.hid hx
  have HSH0 := Lib.hid hSh
  have HRX0 := Lib.hid hRw
  clear hs hT hB hN hx hSh hRw
  go_enter Tryz.func15, Tryz.ntmps15
  have HSM := Lib.hid HFI.out.small
  by_cases h1 : 40 < x.fl.n
  case pos =>
    have p1 : (40 : Int) < (x.fl.n : Int) := by omega
    have q1 : decide ((x.fl.n : Int) > 40) = true := by simp; omega
    go_wp2_with fail
    refine (works9_any _ (HTB0.out.mono (bAlloc (bAlloc (Below.refl _ _) (.cells #[.int .i64 t.q.wells, .slice Aw t.q.nw cw, .slice Af t.q.nf cf, .slice Ao t.no co, .slice Ap t.np cp, .slice As t.ns cs, .int .i64 t.far, .int .i64 t.harm, .int .i64 t.many] 29)) (.cells #[.int .i64 x.at_, .slice Ar x.sh.nr cr, .slice Af2 x.sh.nf cf2, .int .i64 x.sh.deep, .int .i64 x.sh.haul, .int .i64 x.sh.rest, .slice Ax x.fl.n cx] 60))) (HNA0.out.mono (bAlloc (bAlloc (Below.refl _ _) (.cells #[.int .i64 t.q.wells, .slice Aw t.q.nw cw, .slice Af t.q.nf cf, .slice Ao t.no co, .slice Ap t.np cp, .slice As t.ns cs, .int .i64 t.far, .int .i64 t.harm, .int .i64 t.many] 29)) (.cells #[.int .i64 x.at_, .slice Ar x.sh.nr cr, .slice Af2 x.sh.nf cf2, .int .i64 x.sh.deep, .int .i64 x.sh.haul, .int .i64 x.sh.rest, .slice Ax x.fl.n cx] 60)))).mono ?_
    rintro e w1 ⟨rfl, hb⟩
    have hB1 : Below w.heap.size w w1 := bTrans (bAlloc (bAlloc (Below.refl _ _) (.cells #[.int .i64 t.q.wells, .slice Aw t.q.nw cw, .slice Af t.q.nf cf, .slice Ao t.no co, .slice Ap t.np cp, .slice As t.ns cs, .int .i64 t.far, .int .i64 t.harm, .int .i64 t.many] 29)) (.cells #[.int .i64 x.at_, .slice Ar x.sh.nr cr, .slice Af2 x.sh.nf cf2, .int .i64 x.sh.deep, .int .i64 x.sh.haul, .int .i64 x.sh.rest, .slice Ax x.fl.n cx] 60)) hb
    have HD1 := Lib.hid (bTrans HD0.out hB1)
    have HT1 := Lib.hid (HT0.out.mono hB1)
    have HTB1 := Lib.hid (HTB0.out.mono hB1)
    have HNA1 := Lib.hid (HNA0.out.mono hB1)
    have HSH1 := Lib.hid (HSH0.out.mono hB1)
    have HRX1 := Lib.hid (HRX0.out.mono hB1)
    have T1 := Lib.hid (show TBox w1 w.heap.size 29 #[.int .i64 t.q.wells, .slice Aw t.q.nw cw, .slice Af t.q.nf cf, .slice Ao t.no co, .slice Ap t.np cp, .slice As t.ns cs, .int .i64 t.far, .int .i64 t.harm, .int .i64 t.many] from by have := ((TBox.new w #[.int .i64 t.q.wells, .slice Aw t.q.nw cw, .slice Af t.q.nf cf, .slice Ao t.no co, .slice Ap t.np cp, .slice As t.ns cs, .int .i64 t.far, .int .i64 t.harm, .int .i64 t.many] 29).mono (bAlloc (Below.refl _ _) (.cells #[.int .i64 x.at_, .slice Ar x.sh.nr cr, .slice Af2 x.sh.nf cf2, .int .i64 x.sh.deep, .int .i64 x.sh.haul, .int .i64 x.sh.rest, .slice Ax x.fl.n cx] 60))).mono hb; simpa using this)
    have X1 := Lib.hid (show TBox w1 (w.heap.size + 1) 60 #[.int .i64 x.at_, .slice Ar x.sh.nr cr, .slice Af2 x.sh.nf cf2, .int .i64 x.sh.deep, .int .i64 x.sh.haul, .int .i64 x.sh.rest, .slice Ax x.fl.n cx] from by have := ((TBox.new (w.alloc (.cells #[.int .i64 t.q.wells, .slice Aw t.q.nw cw, .slice Af t.q.nf cf, .slice Ao t.no co, .slice Ap t.np cp, .slice As t.ns cs, .int .i64 t.far, .int .i64 t.harm, .int .i64 t.many] 29)) #[.int .i64 x.at_, .slice Ar x.sh.nr cr, .slice Af2 x.sh.nf cf2, .int .i64 x.sh.deep, .int .i64 x.sh.haul, .int .i64 x.sh.rest, .slice Ax x.fl.n cx] 60).mono (Below.refl _ _)).mono hb; simpa using this)
    clear hb hB1 HD0 HT0 HTB0 HNA0 HSH0 HRX0
    obtain ⟨T_0, T_1, T_2, T_3, T_4, T_5, T_6, T_7, T_8, T_l⟩ := T1.out.c9
    obtain ⟨X_0, X_1, X_2, X_3, X_4, X_5, X_6, X_l⟩ := X1.out.c7
    go_wp2_with fail
    go_ret
    exact ⟨rfl, HD1.out⟩
  have p1 : ¬ (40 : Int) < (x.fl.n : Int) := by omega
  have q1 : decide ((x.fl.n : Int) > 40) = false := by simp; omega
  have r1 : decide ((40 : Int) < (x.fl.n : Int)) = false := by simp; omega
  by_cases h2 : 40 < x.sh.nr
  case pos =>
    have p2 : (40 : Int) < (x.sh.nr : Int) := by omega
    have q2 : decide ((x.sh.nr : Int) > 40) = true := by simp; omega
    go_wp2_with fail
    refine (works9_any _ (HTB0.out.mono (bAlloc (bAlloc (Below.refl _ _) (.cells #[.int .i64 t.q.wells, .slice Aw t.q.nw cw, .slice Af t.q.nf cf, .slice Ao t.no co, .slice Ap t.np cp, .slice As t.ns cs, .int .i64 t.far, .int .i64 t.harm, .int .i64 t.many] 29)) (.cells #[.int .i64 x.at_, .slice Ar x.sh.nr cr, .slice Af2 x.sh.nf cf2, .int .i64 x.sh.deep, .int .i64 x.sh.haul, .int .i64 x.sh.rest, .slice Ax x.fl.n cx] 60))) (HNA0.out.mono (bAlloc (bAlloc (Below.refl _ _) (.cells #[.int .i64 t.q.wells, .slice Aw t.q.nw cw, .slice Af t.q.nf cf, .slice Ao t.no co, .slice Ap t.np cp, .slice As t.ns cs, .int .i64 t.far, .int .i64 t.harm, .int .i64 t.many] 29)) (.cells #[.int .i64 x.at_, .slice Ar x.sh.nr cr, .slice Af2 x.sh.nf cf2, .int .i64 x.sh.deep, .int .i64 x.sh.haul, .int .i64 x.sh.rest, .slice Ax x.fl.n cx] 60)))).mono ?_
    rintro e w1 ⟨rfl, hb⟩
    have hB1 : Below w.heap.size w w1 := bTrans (bAlloc (bAlloc (Below.refl _ _) (.cells #[.int .i64 t.q.wells, .slice Aw t.q.nw cw, .slice Af t.q.nf cf, .slice Ao t.no co, .slice Ap t.np cp, .slice As t.ns cs, .int .i64 t.far, .int .i64 t.harm, .int .i64 t.many] 29)) (.cells #[.int .i64 x.at_, .slice Ar x.sh.nr cr, .slice Af2 x.sh.nf cf2, .int .i64 x.sh.deep, .int .i64 x.sh.haul, .int .i64 x.sh.rest, .slice Ax x.fl.n cx] 60)) hb
    have HD1 := Lib.hid (bTrans HD0.out hB1)
    have HT1 := Lib.hid (HT0.out.mono hB1)
    have HTB1 := Lib.hid (HTB0.out.mono hB1)
    have HNA1 := Lib.hid (HNA0.out.mono hB1)
    have HSH1 := Lib.hid (HSH0.out.mono hB1)
    have HRX1 := Lib.hid (HRX0.out.mono hB1)
    have T1 := Lib.hid (show TBox w1 w.heap.size 29 #[.int .i64 t.q.wells, .slice Aw t.q.nw cw, .slice Af t.q.nf cf, .slice Ao t.no co, .slice Ap t.np cp, .slice As t.ns cs, .int .i64 t.far, .int .i64 t.harm, .int .i64 t.many] from by have := ((TBox.new w #[.int .i64 t.q.wells, .slice Aw t.q.nw cw, .slice Af t.q.nf cf, .slice Ao t.no co, .slice Ap t.np cp, .slice As t.ns cs, .int .i64 t.far, .int .i64 t.harm, .int .i64 t.many] 29).mono (bAlloc (Below.refl _ _) (.cells #[.int .i64 x.at_, .slice Ar x.sh.nr cr, .slice Af2 x.sh.nf cf2, .int .i64 x.sh.deep, .int .i64 x.sh.haul, .int .i64 x.sh.rest, .slice Ax x.fl.n cx] 60))).mono hb; simpa using this)
    have X1 := Lib.hid (show TBox w1 (w.heap.size + 1) 60 #[.int .i64 x.at_, .slice Ar x.sh.nr cr, .slice Af2 x.sh.nf cf2, .int .i64 x.sh.deep, .int .i64 x.sh.haul, .int .i64 x.sh.rest, .slice Ax x.fl.n cx] from by have := ((TBox.new (w.alloc (.cells #[.int .i64 t.q.wells, .slice Aw t.q.nw cw, .slice Af t.q.nf cf, .slice Ao t.no co, .slice Ap t.np cp, .slice As t.ns cs, .int .i64 t.far, .int .i64 t.harm, .int .i64 t.many] 29)) #[.int .i64 x.at_, .slice Ar x.sh.nr cr, .slice Af2 x.sh.nf cf2, .int .i64 x.sh.deep, .int .i64 x.sh.haul, .int .i64 x.sh.rest, .slice Ax x.fl.n cx] 60).mono (Below.refl _ _)).mono hb; simpa using this)
    clear hb hB1 HD0 HT0 HTB0 HNA0 HSH0 HRX0
    obtain ⟨T_0, T_1, T_2, T_3, T_4, T_5, T_6, T_7, T_8, T_l⟩ := T1.out.c9
    obtain ⟨X_0, X_1, X_2, X_3, X_4, X_5, X_6, X_l⟩ := X1.out.c7
    go_wp2_with fail
    go_ret
    exact ⟨rfl, HD1.out⟩
  have p2 : ¬ (40 : Int) < (x.sh.nr : Int) := by omega
  have q2 : decide ((x.sh.nr : Int) > 40) = false := by simp; omega
  have r2 : decide ((40 : Int) < (x.sh.nr : Int)) = false := by simp; omega
  by_cases h3 : 40 < x.sh.nf
  case pos =>
    have p3 : (40 : Int) < (x.sh.nf : Int) := by omega
    have q3 : decide ((x.sh.nf : Int) > 40) = true := by simp; omega
    go_wp2_with fail
    refine (works9_any _ (HTB0.out.mono (bAlloc (bAlloc (Below.refl _ _) (.cells #[.int .i64 t.q.wells, .slice Aw t.q.nw cw, .slice Af t.q.nf cf, .slice Ao t.no co, .slice Ap t.np cp, .slice As t.ns cs, .int .i64 t.far, .int .i64 t.harm, .int .i64 t.many] 29)) (.cells #[.int .i64 x.at_, .slice Ar x.sh.nr cr, .slice Af2 x.sh.nf cf2, .int .i64 x.sh.deep, .int .i64 x.sh.haul, .int .i64 x.sh.rest, .slice Ax x.fl.n cx] 60))) (HNA0.out.mono (bAlloc (bAlloc (Below.refl _ _) (.cells #[.int .i64 t.q.wells, .slice Aw t.q.nw cw, .slice Af t.q.nf cf, .slice Ao t.no co, .slice Ap t.np cp, .slice As t.ns cs, .int .i64 t.far, .int .i64 t.harm, .int .i64 t.many] 29)) (.cells #[.int .i64 x.at_, .slice Ar x.sh.nr cr, .slice Af2 x.sh.nf cf2, .int .i64 x.sh.deep, .int .i64 x.sh.haul, .int .i64 x.sh.rest, .slice Ax x.fl.n cx] 60)))).mono ?_
    rintro e w1 ⟨rfl, hb⟩
    have hB1 : Below w.heap.size w w1 := bTrans (bAlloc (bAlloc (Below.refl _ _) (.cells #[.int .i64 t.q.wells, .slice Aw t.q.nw cw, .slice Af t.q.nf cf, .slice Ao t.no co, .slice Ap t.np cp, .slice As t.ns cs, .int .i64 t.far, .int .i64 t.harm, .int .i64 t.many] 29)) (.cells #[.int .i64 x.at_, .slice Ar x.sh.nr cr, .slice Af2 x.sh.nf cf2, .int .i64 x.sh.deep, .int .i64 x.sh.haul, .int .i64 x.sh.rest, .slice Ax x.fl.n cx] 60)) hb
    have HD1 := Lib.hid (bTrans HD0.out hB1)
    have HT1 := Lib.hid (HT0.out.mono hB1)
    have HTB1 := Lib.hid (HTB0.out.mono hB1)
    have HNA1 := Lib.hid (HNA0.out.mono hB1)
    have HSH1 := Lib.hid (HSH0.out.mono hB1)
    have HRX1 := Lib.hid (HRX0.out.mono hB1)
    have T1 := Lib.hid (show TBox w1 w.heap.size 29 #[.int .i64 t.q.wells, .slice Aw t.q.nw cw, .slice Af t.q.nf cf, .slice Ao t.no co, .slice Ap t.np cp, .slice As t.ns cs, .int .i64 t.far, .int .i64 t.harm, .int .i64 t.many] from by have := ((TBox.new w #[.int .i64 t.q.wells, .slice Aw t.q.nw cw, .slice Af t.q.nf cf, .slice Ao t.no co, .slice Ap t.np cp, .slice As t.ns cs, .int .i64 t.far, .int .i64 t.harm, .int .i64 t.many] 29).mono (bAlloc (Below.refl _ _) (.cells #[.int .i64 x.at_, .slice Ar x.sh.nr cr, .slice Af2 x.sh.nf cf2, .int .i64 x.sh.deep, .int .i64 x.sh.haul, .int .i64 x.sh.rest, .slice Ax x.fl.n cx] 60))).mono hb; simpa using this)
    have X1 := Lib.hid (show TBox w1 (w.heap.size + 1) 60 #[.int .i64 x.at_, .slice Ar x.sh.nr cr, .slice Af2 x.sh.nf cf2, .int .i64 x.sh.deep, .int .i64 x.sh.haul, .int .i64 x.sh.rest, .slice Ax x.fl.n cx] from by have := ((TBox.new (w.alloc (.cells #[.int .i64 t.q.wells, .slice Aw t.q.nw cw, .slice Af t.q.nf cf, .slice Ao t.no co, .slice Ap t.np cp, .slice As t.ns cs, .int .i64 t.far, .int .i64 t.harm, .int .i64 t.many] 29)) #[.int .i64 x.at_, .slice Ar x.sh.nr cr, .slice Af2 x.sh.nf cf2, .int .i64 x.sh.deep, .int .i64 x.sh.haul, .int .i64 x.sh.rest, .slice Ax x.fl.n cx] 60).mono (Below.refl _ _)).mono hb; simpa using this)
    clear hb hB1 HD0 HT0 HTB0 HNA0 HSH0 HRX0
    obtain ⟨T_0, T_1, T_2, T_3, T_4, T_5, T_6, T_7, T_8, T_l⟩ := T1.out.c9
    obtain ⟨X_0, X_1, X_2, X_3, X_4, X_5, X_6, X_l⟩ := X1.out.c7
    go_wp2_with fail
    go_ret
    exact ⟨rfl, HD1.out⟩
  have p3 : ¬ (40 : Int) < (x.sh.nf : Int) := by omega
  have q3 : decide ((x.sh.nf : Int) > 40) = false := by simp; omega
  have r3 : decide ((40 : Int) < (x.sh.nf : Int)) = false := by simp; omega
  by_cases h4 : 40 < t.ns
  case pos =>
    have p4 : (40 : Int) < (t.ns : Int) := by omega
    have q4 : decide ((t.ns : Int) > 40) = true := by simp; omega
    go_wp2_with fail
    refine (works9_any _ (HTB0.out.mono (bAlloc (bAlloc (Below.refl _ _) (.cells #[.int .i64 t.q.wells, .slice Aw t.q.nw cw, .slice Af t.q.nf cf, .slice Ao t.no co, .slice Ap t.np cp, .slice As t.ns cs, .int .i64 t.far, .int .i64 t.harm, .int .i64 t.many] 29)) (.cells #[.int .i64 x.at_, .slice Ar x.sh.nr cr, .slice Af2 x.sh.nf cf2, .int .i64 x.sh.deep, .int .i64 x.sh.haul, .int .i64 x.sh.rest, .slice Ax x.fl.n cx] 60))) (HNA0.out.mono (bAlloc (bAlloc (Below.refl _ _) (.cells #[.int .i64 t.q.wells, .slice Aw t.q.nw cw, .slice Af t.q.nf cf, .slice Ao t.no co, .slice Ap t.np cp, .slice As t.ns cs, .int .i64 t.far, .int .i64 t.harm, .int .i64 t.many] 29)) (.cells #[.int .i64 x.at_, .slice Ar x.sh.nr cr, .slice Af2 x.sh.nf cf2, .int .i64 x.sh.deep, .int .i64 x.sh.haul, .int .i64 x.sh.rest, .slice Ax x.fl.n cx] 60)))).mono ?_
    rintro e w1 ⟨rfl, hb⟩
    have hB1 : Below w.heap.size w w1 := bTrans (bAlloc (bAlloc (Below.refl _ _) (.cells #[.int .i64 t.q.wells, .slice Aw t.q.nw cw, .slice Af t.q.nf cf, .slice Ao t.no co, .slice Ap t.np cp, .slice As t.ns cs, .int .i64 t.far, .int .i64 t.harm, .int .i64 t.many] 29)) (.cells #[.int .i64 x.at_, .slice Ar x.sh.nr cr, .slice Af2 x.sh.nf cf2, .int .i64 x.sh.deep, .int .i64 x.sh.haul, .int .i64 x.sh.rest, .slice Ax x.fl.n cx] 60)) hb
    have HD1 := Lib.hid (bTrans HD0.out hB1)
    have HT1 := Lib.hid (HT0.out.mono hB1)
    have HTB1 := Lib.hid (HTB0.out.mono hB1)
    have HNA1 := Lib.hid (HNA0.out.mono hB1)
    have HSH1 := Lib.hid (HSH0.out.mono hB1)
    have HRX1 := Lib.hid (HRX0.out.mono hB1)
    have T1 := Lib.hid (show TBox w1 w.heap.size 29 #[.int .i64 t.q.wells, .slice Aw t.q.nw cw, .slice Af t.q.nf cf, .slice Ao t.no co, .slice Ap t.np cp, .slice As t.ns cs, .int .i64 t.far, .int .i64 t.harm, .int .i64 t.many] from by have := ((TBox.new w #[.int .i64 t.q.wells, .slice Aw t.q.nw cw, .slice Af t.q.nf cf, .slice Ao t.no co, .slice Ap t.np cp, .slice As t.ns cs, .int .i64 t.far, .int .i64 t.harm, .int .i64 t.many] 29).mono (bAlloc (Below.refl _ _) (.cells #[.int .i64 x.at_, .slice Ar x.sh.nr cr, .slice Af2 x.sh.nf cf2, .int .i64 x.sh.deep, .int .i64 x.sh.haul, .int .i64 x.sh.rest, .slice Ax x.fl.n cx] 60))).mono hb; simpa using this)
    have X1 := Lib.hid (show TBox w1 (w.heap.size + 1) 60 #[.int .i64 x.at_, .slice Ar x.sh.nr cr, .slice Af2 x.sh.nf cf2, .int .i64 x.sh.deep, .int .i64 x.sh.haul, .int .i64 x.sh.rest, .slice Ax x.fl.n cx] from by have := ((TBox.new (w.alloc (.cells #[.int .i64 t.q.wells, .slice Aw t.q.nw cw, .slice Af t.q.nf cf, .slice Ao t.no co, .slice Ap t.np cp, .slice As t.ns cs, .int .i64 t.far, .int .i64 t.harm, .int .i64 t.many] 29)) #[.int .i64 x.at_, .slice Ar x.sh.nr cr, .slice Af2 x.sh.nf cf2, .int .i64 x.sh.deep, .int .i64 x.sh.haul, .int .i64 x.sh.rest, .slice Ax x.fl.n cx] 60).mono (Below.refl _ _)).mono hb; simpa using this)
    clear hb hB1 HD0 HT0 HTB0 HNA0 HSH0 HRX0
    obtain ⟨T_0, T_1, T_2, T_3, T_4, T_5, T_6, T_7, T_8, T_l⟩ := T1.out.c9
    obtain ⟨X_0, X_1, X_2, X_3, X_4, X_5, X_6, X_l⟩ := X1.out.c7
    go_wp2_with fail
    go_ret
    exact ⟨rfl, HD1.out⟩
  have p4 : ¬ (40 : Int) < (t.ns : Int) := by omega
  have q4 : decide ((t.ns : Int) > 40) = false := by simp; omega
  have r4 : decide ((40 : Int) < (t.ns : Int)) = false := by simp; omega
  go_wp2_with fail
  have HNS := Lib.hid (show t.ns ≤ 40 by omega)
  clear p1 q1 r1 p2 q2 r2 p3 q3 r3 p4 q4 r4 h1 h2 h3 h4
  obtain ⟨w1, hw9⟩ : ∃ y, ((w.alloc (.cells #[.int .i64 t.q.wells, .slice Aw t.q.nw cw, .slice Af t.q.nf cf, .slice Ao t.no co, .slice Ap t.np cp, .slice As t.ns cs, .int .i64 t.far, .int .i64 t.harm, .int .i64 t.many] 29)).alloc (.cells #[.int .i64 x.at_, .slice Ar x.sh.nr cr, .slice Af2 x.sh.nf cf2, .int .i64 x.sh.deep, .int .i64 x.sh.haul, .int .i64 x.sh.rest, .slice Ax x.fl.n cx] 60)) = y := ⟨_, rfl⟩
  have hb : Below ((w.alloc (.cells #[.int .i64 t.q.wells, .slice Aw t.q.nw cw, .slice Af t.q.nf cf, .slice Ao t.no co, .slice Ap t.np cp, .slice As t.ns cs, .int .i64 t.far, .int .i64 t.harm, .int .i64 t.many] 29)).alloc (.cells #[.int .i64 x.at_, .slice Ar x.sh.nr cr, .slice Af2 x.sh.nf cf2, .int .i64 x.sh.deep, .int .i64 x.sh.haul, .int .i64 x.sh.rest, .slice Ax x.fl.n cx] 60)).heap.size ((w.alloc (.cells #[.int .i64 t.q.wells, .slice Aw t.q.nw cw, .slice Af t.q.nf cf, .slice Ao t.no co, .slice Ap t.np cp, .slice As t.ns cs, .int .i64 t.far, .int .i64 t.harm, .int .i64 t.many] 29)).alloc (.cells #[.int .i64 x.at_, .slice Ar x.sh.nr cr, .slice Af2 x.sh.nf cf2, .int .i64 x.sh.deep, .int .i64 x.sh.haul, .int .i64 x.sh.rest, .slice Ax x.fl.n cx] 60)) w1 := hw9 ▸ Below.refl _ _
  rw [hw9]
  clear hw9
  have hB1 : Below w.heap.size w w1 := bTrans (bAlloc (bAlloc (Below.refl _ _) (.cells #[.int .i64 t.q.wells, .slice Aw t.q.nw cw, .slice Af t.q.nf cf, .slice Ao t.no co, .slice Ap t.np cp, .slice As t.ns cs, .int .i64 t.far, .int .i64 t.harm, .int .i64 t.many] 29)) (.cells #[.int .i64 x.at_, .slice Ar x.sh.nr cr, .slice Af2 x.sh.nf cf2, .int .i64 x.sh.deep, .int .i64 x.sh.haul, .int .i64 x.sh.rest, .slice Ax x.fl.n cx] 60)) hb
  have HD1 := Lib.hid (bTrans HD0.out hB1)
  have HT1 := Lib.hid (HT0.out.mono hB1)
  have HTB1 := Lib.hid (HTB0.out.mono hB1)
  have HNA1 := Lib.hid (HNA0.out.mono hB1)
  have HSH1 := Lib.hid (HSH0.out.mono hB1)
  have HRX1 := Lib.hid (HRX0.out.mono hB1)
  have T1 := Lib.hid (show TBox w1 w.heap.size 29 #[.int .i64 t.q.wells, .slice Aw t.q.nw cw, .slice Af t.q.nf cf, .slice Ao t.no co, .slice Ap t.np cp, .slice As t.ns cs, .int .i64 t.far, .int .i64 t.harm, .int .i64 t.many] from by have := ((TBox.new w #[.int .i64 t.q.wells, .slice Aw t.q.nw cw, .slice Af t.q.nf cf, .slice Ao t.no co, .slice Ap t.np cp, .slice As t.ns cs, .int .i64 t.far, .int .i64 t.harm, .int .i64 t.many] 29).mono (bAlloc (Below.refl _ _) (.cells #[.int .i64 x.at_, .slice Ar x.sh.nr cr, .slice Af2 x.sh.nf cf2, .int .i64 x.sh.deep, .int .i64 x.sh.haul, .int .i64 x.sh.rest, .slice Ax x.fl.n cx] 60))).mono hb; simpa using this)
  have X1 := Lib.hid (show TBox w1 (w.heap.size + 1) 60 #[.int .i64 x.at_, .slice Ar x.sh.nr cr, .slice Af2 x.sh.nf cf2, .int .i64 x.sh.deep, .int .i64 x.sh.haul, .int .i64 x.sh.rest, .slice Ax x.fl.n cx] from by have := ((TBox.new (w.alloc (.cells #[.int .i64 t.q.wells, .slice Aw t.q.nw cw, .slice Af t.q.nf cf, .slice Ao t.no co, .slice Ap t.np cp, .slice As t.ns cs, .int .i64 t.far, .int .i64 t.harm, .int .i64 t.many] 29)) #[.int .i64 x.at_, .slice Ar x.sh.nr cr, .slice Af2 x.sh.nf cf2, .int .i64 x.sh.deep, .int .i64 x.sh.haul, .int .i64 x.sh.rest, .slice Ax x.fl.n cx] 60).mono (Below.refl _ _)).mono hb; simpa using this)
  clear hb hB1 HD0 HT0 HTB0 HNA0 HSH0 HRX0
  obtain ⟨T_0, T_1, T_2, T_3, T_4, T_5, T_6, T_7, T_8, T_l⟩ := T1.out.c9
  obtain ⟨X_0, X_1, X_2, X_3, X_4, X_5, X_6, X_l⟩ := X1.out.c7
  refine (copy9_any Aw Af Ao Ap As cw cf co cp cs t _ HFI.out HT1.out).mono ?_
  rintro e w2 ⟨ho, hb⟩
  obtain ⟨_, _, _, _, _, rfl, hc⟩ := ho
  obtain ⟨Bw, dw, Bf, df, Bo, do_, Bp, dp, Bs, ds, rfl, rfl, rfl, rfl, rfl, hU⟩ := hc.pat
  have hB2 : Below w1.heap.size w1 w2 := bTrans (Below.refl _ _) hb
  have HWX := Lib.hid hB2
  have HD2 := Lib.hid (bTrans HD1.out hB2)
  have HT2 := Lib.hid (HT1.out.mono hB2)
  have HTB2 := Lib.hid (HTB1.out.mono hB2)
  have HNA2 := Lib.hid (HNA1.out.mono hB2)
  have HSH2 := Lib.hid (HSH1.out.mono hB2)
  have HRX2 := Lib.hid (HRX1.out.mono hB2)
  have HC2 := Lib.hid (hc)
  have T2 := Lib.hid (T1.out.mono hB2)
  have X2 := Lib.hid (X1.out.mono hB2)
  clear hb hB2 T_0 T_1 T_2 T_3 T_4 T_5 T_6 T_7 T_8 T_l X_0 X_1 X_2 X_3 X_4 X_5 X_6 X_l
  obtain ⟨T_0, T_1, T_2, T_3, T_4, T_5, T_6, T_7, T_8, T_l⟩ := T2.out.c9
  obtain ⟨X_0, X_1, X_2, X_3, X_4, X_5, X_6, X_l⟩ := X2.out.c7
  clear hc hU
  obtain ⟨us, hown, hrows⟩ := HC2.out.spots
  have HVB := Lib.hid (fun q hq => (hown.lt q hq).2)
  have HV2 := Lib.hid hown
  have HR2 := Lib.hid hrows
  have HBC := Lib.hid HD2.out
  clear hown hrows
  skip
  go_wp2_with fail
  have hn1 : (t.ns + 1) * 104 ≤ 140737488351232 := by have := HNS.out; omega
  have HN1 := Lib.hid hn1
  clear hn1
  have HX := Lib.hid (TBox.new w2 #[.int .i64 t.q.wells, .slice Bw t.q.nw dw, .slice Bf t.q.nf df, .slice Bo t.no do_, .slice Bp t.np dp, .slice Bs t.ns ds, .int .i64 t.far, .int .i64 t.harm, .int .i64 t.many] 29)
  refine wp_region_pin 5 [.const (.pointer (some ⟨w2.heap.size, 5, none⟩)), .const (.slice Bs t.ns ds), .const (.agg #[.int .i64 x.at_, .slice Ar x.sh.nr cr, .slice Af2 x.sh.nf cf2, .int .i64 x.sh.deep, .int .i64 x.sh.haul, .int .i64 x.sh.rest, .slice Ax x.fl.n cx]), .held (cp9S x) (cp9R x), .held one1 (spIn x)]
    [.pointer (some ⟨w2.heap.size, 5, none⟩)] (by kernel_rfl) (by kernel_rfl) rfl ⟨trivial, trivial, trivial, cp9G, spInG, trivial⟩ (crossAll_no _ _ _ _ trivial) rfl rfl (fun j u hj => ?_) ?_
  · match j, hj with
    | 0, hj =>
      obtain rfl : Value.pointer (some ⟨w2.heap.size, 5, none⟩) = u := by simpa using hj
      exact ⟨_, rfl, rfl, fun w' => by go_simp⟩
  iterate 3 refine wpStir_const (by go_simp) ?_
  simp only [Act.put, List.setIfInBounds_toArray, List.set_cons_succ, List.set_cons_zero]
  refine wpStir_held rfl (fun w' hb hd => ?_) (fun v hv => ?_)
  · clear hd
    have hcw := Lib.hid (copySpot_any Ar Af2 Ax cr cf2 cx x w' HXF.out ((HSH2.out.mono (bAlloc (Below.refl _ _) (.cells #[.int .i64 t.q.wells, .slice Bw t.q.nw dw, .slice Bf t.q.nf df, .slice Bo t.no do_, .slice Bp t.np dp, .slice Bs t.ns ds, .int .i64 t.far, .int .i64 t.harm, .int .i64 t.many] 29))).mono hb) ((HRX2.out.mono (bAlloc (Below.refl _ _) (.cells #[.int .i64 t.q.wells, .slice Bw t.q.nw dw, .slice Bf t.q.nf df, .slice Bo t.no do_, .slice Bp t.np dp, .slice Bs t.ns ds, .int .i64 t.far, .int .i64 t.harm, .int .i64 t.many] 29))).mono hb))
    go_simp
    refine hcw.out.mono ?_
    rintro e w'' ⟨hso, hb'⟩
    obtain ⟨l, rfl, hl⟩ := hso.spk
    have hl2 := hl
    obtain ⟨_, _, _, _, u, rfl, _, _, hu⟩ := hl2
    obtain ⟨_, _, _, rfl, _⟩ := hu
    refine ⟨_, rfl, hb', ⟨_, _, _, _, _, _, rfl⟩, fun l' e => ?_⟩
    obtain rfl : _ = l' := by
      have := Value.agg.inj e
      exact congrArg Array.toList this
    exact hl
  obtain ⟨Br, Br2, Bx, dr, dr2, dx, rfl⟩ := hv
  refine wpStir_held rfl (fun w' hb hd => ?_) (fun v hv => ?_)
  · have h1 : SpK w' _ x := hd.1 (by kernel_rfl) _ rfl
    clear hd
    go_simp
    refine ⟨bAlloc (Below.refl _ _) _, ⟨_, rfl⟩, fun b' hb' => ?_⟩
    obtain rfl : w'.heap.size = b' := by simpa using hb'
    have h2 := h1.mono (bAlloc (Below.refl _ _) (.cells #[.int .i64 x.at_, .slice Br x.sh.nr dr, .slice Br2 x.sh.nf dr2, .int .i64 x.sh.deep, .int .i64 x.sh.haul, .int .i64 x.sh.rest, .slice Bx x.fl.n dx] 60))
    refine ⟨_, ?_, h2⟩
    intro j u hj
    exact ((TBox.new w' #[.int .i64 x.at_, .slice Br x.sh.nr dr, .slice Br2 x.sh.nf dr2, .int .i64 x.sh.deep, .int .i64 x.sh.haul, .int .i64 x.sh.rest, .slice Bx x.fl.n dx] 60).cell j).trans (by simpa using hj)
  obtain ⟨b9, rfl⟩ := hv
  simp only [Act.put, List.setIfInBounds_toArray, List.set_cons_succ, List.set_cons_zero]
  refine wpStir_end (fun w9 hb9 hd => ?_)
  obtain ⟨l, h4, h5⟩ := hd.1 b9 rfl
  clear hd
  have hbk : Below w2.heap.size w2 w9 := bTrans (bAlloc (Below.refl _ _) _) hb9
  have HX9 := Lib.hid (HX.out.mono hb9)
  have HV9 := Lib.hid (owns_below HV2.out hbk)
  have HR9 := Lib.hid (HR2.out.mono hbk)
  have HC9 := Lib.hid (HC2.out.mono hbk)
  have HK9 := Lib.hid h5
  have HL9 := Lib.hid (bTrans HWX.out hbk)
  have HZ9 := Lib.hid hbk.size
  refine stir_own (Operand.tmp 56) (Operand.tmp 59) 27 rfl w1.heap.size 60 (.agg #[.int .i64 0, .slice none 0 0, .slice none 0 0, .int .i64 0, .int .i64 0, .int .i64 0, .slice none 0 0]) 7 104 infoSpot Tryz.underlying27 rfl (by decide) (.slice Bs t.ns ds) t.ns us rfl HV9.out ⟨b9, 0, none⟩ 1 1 l rfl (by rw [h5.len]) (fun j u hj => by rw [add_none, Nat.zero_add]; exact h4 j u hj) h5.one (by unfold maxLen; have := HN1.out; omega) (by have := HN1.out; omega) HL9.out.size (fun v' w10 hown10 hg10 => ?_)
  obtain ⟨A6, c6, rfl, _⟩ := RowK.own hown10
  have hnb : some w2.heap.size ≠ (Value.slice Bs t.ns ds).ownBlock := fun e => by have := HVB.out _ e.symm; omega
  have HX10 := Lib.hid (HX9.out.grown hg10 hnb)
  have hk10 : Kept [3, 26, 146, 128, 64] w9 w10 := Kept.of_own hg10 HV9.out (by decide)
  have HC10 := Lib.hid (HC9.out.more hk10 HR9.out hown10 (HK9.out.kept hk10 (by simp) (by simp) (by simp)))
  have HL10 := Lib.hid (HL9.out.grown hg10 HL9.out.size (fun q hq => (HV9.out.lt q hq).1))
  have r1 : w10.cell? ⟨w2.heap.size, 5, none⟩ = some (.slice Bs t.ns ds) := HX10.out.cell 5
  have r2 := HX10.out.frozen 5
  have r3 := HX10.out.lt
  clear hown10 hg10 h4 h5 hb9 hbk hnb hk10
  simp only [putF, Act.put, List.setIfInBounds_toArray, List.set_cons_succ, List.set_cons_zero, List.drop_succ_cons, List.drop_zero]
  obtain ⟨w20, hw20⟩ : ∃ w20, w10.setCell ⟨w2.heap.size, 5, none⟩ (.slice A6 (t.ns + 1) c6) = w20 := ⟨_, rfl⟩
  have hca : CopyAt9 w20 w1.heap.size (.slice Bw t.q.nw dw) (.slice Bf t.q.nf df) (.slice Bo t.no do_) (.slice Bp t.np dp) (.slice A6 (t.ns + 1) c6) (t.addSpot x) := hw20 ▸ HC10.out.setTy ⟨_, HX10.out⟩ 5 _
  obtain ⟨a1, a2, a3, a4, a5, a6, a7, a8, a9, a10, e1, e2, e3, e4, e5, hU⟩ := hca.pat
  have e1 : Value.slice Bw t.q.nw dw = Value.slice a1 t.q.nw a2 := e1
  have e2 : Value.slice Bf t.q.nf df = Value.slice a3 t.q.nf a4 := e2
  have e3 : Value.slice Bo t.no do_ = Value.slice a5 t.no a6 := e3
  have e4 : Value.slice Bp t.np dp = Value.slice a7 t.np a8 := e4
  have e5 : Value.slice A6 (t.ns + 1) c6 = Value.slice a9 (t.ns + 1) a10 := e5
  simp only [Value.slice.injEq, true_and] at e1 e2 e3 e4 e5
  obtain ⟨rfl, rfl⟩ := e1
  obtain ⟨rfl, rfl⟩ := e2
  obtain ⟨rfl, rfl⟩ := e3
  obtain ⟨rfl, rfl⟩ := e4
  obtain ⟨rfl, rfl⟩ := e5
  have HUU := Lib.hid hU
  have HOX := Lib.hid (show TBox w20 w2.heap.size 29 #[.int .i64 t.q.wells, .slice Bw t.q.nw dw, .slice Bf t.q.nf df, .slice Bo t.no do_, .slice Bp t.np dp, .slice A6 (t.ns + 1) c6, .int .i64 t.far, .int .i64 t.harm, .int .i64 t.many] from hw20 ▸ HX10.out.set 5 (.slice A6 (t.ns + 1) c6))
  have hb : Below w1.heap.size w1 w20 := hw20 ▸ Below.setCell (p := ⟨w2.heap.size, 5, none⟩) HL10.out (show w1.heap.size ≤ w2.heap.size from HWX.out.size) _
  have HW20 := Lib.hid hw20
  clear hca hU hw20
  refine wpList_skip rfl rfl (w'' := w20) (by rw [← HW20.out]; go_simp) ?_
  clear r1 r2 r3
  clear T_0 T_1 T_2 T_3 T_4 T_5 T_6 T_7 T_8 T_l X_0 X_1 X_2 X_3 X_4 X_5 X_6 X_l
  have hB20 : Below w1.heap.size w1 w20 := bTrans (Below.refl _ _) hb
  have HD20 := Lib.hid (bTrans HD1.out hB20)
  have HT20 := Lib.hid (HT1.out.mono hB20)
  have HTB20 := Lib.hid (HTB1.out.mono hB20)
  have HNA20 := Lib.hid (HNA1.out.mono hB20)
  have HSH20 := Lib.hid (HSH1.out.mono hB20)
  have HRX20 := Lib.hid (HRX1.out.mono hB20)
  have HU20 := Lib.hid (HUU.out)
  have T20 := Lib.hid (T1.out.mono hB20)
  have X20 := Lib.hid (X1.out.mono hB20)
  clear hb hB20
  obtain ⟨T_0, T_1, T_2, T_3, T_4, T_5, T_6, T_7, T_8, T_l⟩ := T20.out.c9
  obtain ⟨X_0, X_1, X_2, X_3, X_4, X_5, X_6, X_l⟩ := X20.out.c7
  have U20 := HOX
  clear HOX
  obtain ⟨U_0, U_1, U_2, U_3, U_4, U_5, U_6, U_7, U_8, U_l⟩ := U20.out.c9
  have HSU := Lib.hid (show (t.addSpot x).Small from addSpot_small HSM.out (by have := HNS.out; omega) HXF.out.small)
  have HTW := Lib.hid (addSpot_twin t x)
  go_wp2_with fail
  refine (ready9_any Aw Af Ao Ap As cw cf co cp cs t _ HSM.out HT20.out).mono ?_
  rintro e w21 ⟨⟨bf, rfl, hok⟩, hb⟩
  have hB21 : Below w20.heap.size w20 w21 := bTrans (Below.refl _ _) hb
  have HD21 := Lib.hid (bTrans HD20.out hB21)
  have HT21 := Lib.hid (HT20.out.mono hB21)
  have HTB21 := Lib.hid (HTB20.out.mono hB21)
  have HNA21 := Lib.hid (HNA20.out.mono hB21)
  have HSH21 := Lib.hid (HSH20.out.mono hB21)
  have HRX21 := Lib.hid (HRX20.out.mono hB21)
  have HU21 := Lib.hid (HU20.out.mono hB21)
  have T21 := Lib.hid (T20.out.mono hB21)
  have X21 := Lib.hid (X20.out.mono hB21)
  have U21 := Lib.hid (U20.out.mono hB21)
  clear hb hB21 HD20 HT20 HTB20 HNA20 HSH20 HRX20 HU20 T20 T_0 T_1 T_2 T_3 T_4 T_5 T_6 T_7 T_8 T_l X20 X_0 X_1 X_2 X_3 X_4 X_5 X_6 X_l U20 U_0 U_1 U_2 U_3 U_4 U_5 U_6 U_7 U_8 U_l
  obtain ⟨T_0, T_1, T_2, T_3, T_4, T_5, T_6, T_7, T_8, T_l⟩ := T21.out.c9
  obtain ⟨X_0, X_1, X_2, X_3, X_4, X_5, X_6, X_l⟩ := X21.out.c7
  obtain ⟨U_0, U_1, U_2, U_3, U_4, U_5, U_6, U_7, U_8, U_l⟩ := U21.out.c9
  cases bf
  case false =>
    go_wp2_with fail
    refine (works9_any _ HTB21.out HNA21.out).mono ?_
    rintro e w22 ⟨rfl, hb⟩
    have hB22 : Below w21.heap.size w21 w22 := bTrans (Below.refl _ _) hb
    have HD22 := Lib.hid (bTrans HD21.out hB22)
    have HT22 := Lib.hid (HT21.out.mono hB22)
    have HTB22 := Lib.hid (HTB21.out.mono hB22)
    have HNA22 := Lib.hid (HNA21.out.mono hB22)
    have HSH22 := Lib.hid (HSH21.out.mono hB22)
    have HRX22 := Lib.hid (HRX21.out.mono hB22)
    have HU22 := Lib.hid (HU21.out.mono hB22)
    have T22 := Lib.hid (T21.out.mono hB22)
    have X22 := Lib.hid (X21.out.mono hB22)
    have U22 := Lib.hid (U21.out.mono hB22)
    clear hb hB22 HD21 HT21 HTB21 HNA21 HSH21 HRX21 HU21 T21 T_0 T_1 T_2 T_3 T_4 T_5 T_6 T_7 T_8 T_l X21 X_0 X_1 X_2 X_3 X_4 X_5 X_6 X_l U21 U_0 U_1 U_2 U_3 U_4 U_5 U_6 U_7 U_8 U_l
    obtain ⟨T_0, T_1, T_2, T_3, T_4, T_5, T_6, T_7, T_8, T_l⟩ := T22.out.c9
    obtain ⟨X_0, X_1, X_2, X_3, X_4, X_5, X_6, X_l⟩ := X22.out.c7
    obtain ⟨U_0, U_1, U_2, U_3, U_4, U_5, U_6, U_7, U_8, U_l⟩ := U22.out.c9
    go_wp2_with fail
    go_ret
    exact ⟨rfl, HD22.out⟩
  have HOK := Lib.hid (hok rfl)
  clear hok
  go_wp2_with fail
  refine ((by have := ready9_any Bw Bf Bo Bp A6 dw df do_ dp c6 (t.addSpot x) w21 HSU.out HU21.out; exact this : Calls Tryz.prog 39 #[.agg #[.int .i64 t.q.wells, .slice Bw t.q.nw dw, .slice Bf t.q.nf df, .slice Bo t.no do_, .slice Bp t.np dp, .slice A6 (t.ns + 1) c6, .int .i64 t.far, .int .i64 t.harm, .int .i64 t.many]] w21 fun e w' => ReadyB (t.addSpot x) e ∧ Below w21.heap.size w21 w')).mono ?_
  rintro e w22 ⟨⟨bf, rfl, hok⟩, hb⟩
  have hB22 : Below w21.heap.size w21 w22 := bTrans (Below.refl _ _) hb
  have HD22 := Lib.hid (bTrans HD21.out hB22)
  have HT22 := Lib.hid (HT21.out.mono hB22)
  have HTB22 := Lib.hid (HTB21.out.mono hB22)
  have HNA22 := Lib.hid (HNA21.out.mono hB22)
  have HSH22 := Lib.hid (HSH21.out.mono hB22)
  have HRX22 := Lib.hid (HRX21.out.mono hB22)
  have HU22 := Lib.hid (HU21.out.mono hB22)
  have T22 := Lib.hid (T21.out.mono hB22)
  have X22 := Lib.hid (X21.out.mono hB22)
  have U22 := Lib.hid (U21.out.mono hB22)
  clear hb hB22 HD21 HT21 HTB21 HNA21 HSH21 HRX21 HU21 T21 T_0 T_1 T_2 T_3 T_4 T_5 T_6 T_7 T_8 T_l X21 X_0 X_1 X_2 X_3 X_4 X_5 X_6 X_l U21 U_0 U_1 U_2 U_3 U_4 U_5 U_6 U_7 U_8 U_l
  obtain ⟨T_0, T_1, T_2, T_3, T_4, T_5, T_6, T_7, T_8, T_l⟩ := T22.out.c9
  obtain ⟨X_0, X_1, X_2, X_3, X_4, X_5, X_6, X_l⟩ := X22.out.c7
  obtain ⟨U_0, U_1, U_2, U_3, U_4, U_5, U_6, U_7, U_8, U_l⟩ := U22.out.c9
  cases bf
  case false =>
    go_wp2_with fail
    refine (works9_any _ HTB22.out HNA22.out).mono ?_
    rintro e w23 ⟨rfl, hb⟩
    have hB23 : Below w22.heap.size w22 w23 := bTrans (Below.refl _ _) hb
    have HD23 := Lib.hid (bTrans HD22.out hB23)
    have HT23 := Lib.hid (HT22.out.mono hB23)
    have HTB23 := Lib.hid (HTB22.out.mono hB23)
    have HNA23 := Lib.hid (HNA22.out.mono hB23)
    have HSH23 := Lib.hid (HSH22.out.mono hB23)
    have HRX23 := Lib.hid (HRX22.out.mono hB23)
    have HU23 := Lib.hid (HU22.out.mono hB23)
    have T23 := Lib.hid (T22.out.mono hB23)
    have X23 := Lib.hid (X22.out.mono hB23)
    have U23 := Lib.hid (U22.out.mono hB23)
    clear hb hB23 HD22 HT22 HTB22 HNA22 HSH22 HRX22 HU22 T22 T_0 T_1 T_2 T_3 T_4 T_5 T_6 T_7 T_8 T_l X22 X_0 X_1 X_2 X_3 X_4 X_5 X_6 X_l U22 U_0 U_1 U_2 U_3 U_4 U_5 U_6 U_7 U_8 U_l
    obtain ⟨T_0, T_1, T_2, T_3, T_4, T_5, T_6, T_7, T_8, T_l⟩ := T23.out.c9
    obtain ⟨X_0, X_1, X_2, X_3, X_4, X_5, X_6, X_l⟩ := X23.out.c7
    obtain ⟨U_0, U_1, U_2, U_3, U_4, U_5, U_6, U_7, U_8, U_l⟩ := U23.out.c9
    go_wp2_with fail
    go_ret
    exact ⟨rfl, HD23.out⟩
  have HOK2 := Lib.hid (hok rfl)
  clear hok
  go_wp2_with fail
  refine (leftOf9_any Aw Af Ao Ap As cw cf co cp cs t _ HOK.out HT22.out).mono ?_
  rintro e w23 ⟨⟨A4, c4, rfl, hi4⟩, hb⟩
  have hB23 : Below w22.heap.size w22 w23 := bTrans (Below.refl _ _) hb
  have HD23 := Lib.hid (bTrans HD22.out hB23)
  have HT23 := Lib.hid (HT22.out.mono hB23)
  have HTB23 := Lib.hid (HTB22.out.mono hB23)
  have HNA23 := Lib.hid (HNA22.out.mono hB23)
  have HSH23 := Lib.hid (HSH22.out.mono hB23)
  have HRX23 := Lib.hid (HRX22.out.mono hB23)
  have HU23 := Lib.hid (HU22.out.mono hB23)
  have T23 := Lib.hid (T22.out.mono hB23)
  have X23 := Lib.hid (X22.out.mono hB23)
  have U23 := Lib.hid (U22.out.mono hB23)
  clear hb hB23 HD22 HT22 HTB22 HNA22 HSH22 HRX22 HU22 T22 T_0 T_1 T_2 T_3 T_4 T_5 T_6 T_7 T_8 T_l X22 X_0 X_1 X_2 X_3 X_4 X_5 X_6 X_l U22 U_0 U_1 U_2 U_3 U_4 U_5 U_6 U_7 U_8 U_l
  obtain ⟨T_0, T_1, T_2, T_3, T_4, T_5, T_6, T_7, T_8, T_l⟩ := T23.out.c9
  obtain ⟨X_0, X_1, X_2, X_3, X_4, X_5, X_6, X_l⟩ := X23.out.c7
  obtain ⟨U_0, U_1, U_2, U_3, U_4, U_5, U_6, U_7, U_8, U_l⟩ := U23.out.c9
  clear hi4
  obtain ⟨nl, hnl⟩ : ∃ n, t.q.leftL.length = n := ⟨_, rfl⟩
  have HNL := Lib.hid hnl
  rw [hnl]
  clear hnl
  by_cases h0 : nl = 0
  case pos =>
    subst h0
    go_wp2_with fail
    refine (works9_any _ HTB23.out HNA23.out).mono ?_
    rintro e w24 ⟨rfl, hb⟩
    have hB24 : Below w23.heap.size w23 w24 := bTrans (Below.refl _ _) hb
    have HD24 := Lib.hid (bTrans HD23.out hB24)
    have HT24 := Lib.hid (HT23.out.mono hB24)
    have HTB24 := Lib.hid (HTB23.out.mono hB24)
    have HNA24 := Lib.hid (HNA23.out.mono hB24)
    have HSH24 := Lib.hid (HSH23.out.mono hB24)
    have HRX24 := Lib.hid (HRX23.out.mono hB24)
    have HU24 := Lib.hid (HU23.out.mono hB24)
    have T24 := Lib.hid (T23.out.mono hB24)
    have X24 := Lib.hid (X23.out.mono hB24)
    have U24 := Lib.hid (U23.out.mono hB24)
    clear hb hB24 HD23 HT23 HTB23 HNA23 HSH23 HRX23 HU23 T23 T_0 T_1 T_2 T_3 T_4 T_5 T_6 T_7 T_8 T_l X23 X_0 X_1 X_2 X_3 X_4 X_5 X_6 X_l U23 U_0 U_1 U_2 U_3 U_4 U_5 U_6 U_7 U_8 U_l
    obtain ⟨T_0, T_1, T_2, T_3, T_4, T_5, T_6, T_7, T_8, T_l⟩ := T24.out.c9
    obtain ⟨X_0, X_1, X_2, X_3, X_4, X_5, X_6, X_l⟩ := X24.out.c7
    obtain ⟨U_0, U_1, U_2, U_3, U_4, U_5, U_6, U_7, U_8, U_l⟩ := U24.out.c9
    go_wp2_with fail
    go_ret
    exact ⟨rfl, HD24.out⟩
  have HNE := Lib.hid (show t.q.leftL ≠ [] from fun h => h0 (by rw [← HNL.out, h]; rfl))
  have e1 : ((nl : Int) == 0) = false := by simp; exact h0
  have e2 : (nl == 0) = false := by simp; exact h0
  have HNE2 := Lib.hid (show (t.addSpot x).q.leftL ≠ [] from HNE.out)
  go_wp2_with fail
  clear e1 e2 h0
  obtain ⟨b1, hb1⟩ : ∃ y, t.bestV = y := ⟨_, rfl⟩
  have HB1 := Lib.hid hb1
  clear hb1
  obtain ⟨b2, hb2⟩ : ∃ y, (t.addSpot x).bestV = y := ⟨_, rfl⟩
  have HB2 := Lib.hid hb2
  clear hb2
  obtain ⟨k1, hk1⟩ : ∃ y, t.cheapV = y := ⟨_, rfl⟩
  have HC1 := Lib.hid hk1
  clear hk1
  obtain ⟨k2, hk2⟩ : ∃ y, (t.addSpot x).cheapV = y := ⟨_, rfl⟩
  have HC2 := Lib.hid hk2
  clear hk2
  obtain ⟨m1, hm1⟩ : ∃ y, t.pairV = y := ⟨_, rfl⟩
  have HP1 := Lib.hid hm1
  clear hm1
  obtain ⟨m2, hm2⟩ : ∃ y, (t.addSpot x).pairV = y := ⟨_, rfl⟩
  have HP2 := Lib.hid hm2
  clear hm2
  have i1 : b2 ≤ b1 := by rw [← HB1.out, ← HB2.out]; exact HTW.out.bestV_le HOK2.out
  have i2 : k2 ≤ k1 := by rw [← HC1.out, ← HC2.out]; exact HTW.out.cheapV_le HOK2.out
  have i3 : m2 ≤ m1 := by rw [← HP1.out, ← HP2.out]; exact HTW.out.pairV_le HOK2.out HOK.out
  have j1 : ¬ b2 > b1 := by omega
  have l1 : ¬ b1 < b2 := by omega
  have j2 : ¬ k2 > k1 := by omega
  have l2 : ¬ k1 < k2 := by omega
  have j3 : ¬ m2 > m1 := by omega
  have l3 : ¬ m1 < m2 := by omega
  refine ((by have := bestV9_any Aw Af Ao Ap As cw cf co cp cs t w23 HSM.out HT23.out HTB23.out HNA23.out HOK.out HNE.out; rw [HB1.out] at this; exact this : Calls Tryz.prog 55 #[.agg #[.int .i64 t.q.wells, .slice Aw t.q.nw cw, .slice Af t.q.nf cf, .slice Ao t.no co, .slice Ap t.np cp, .slice As t.ns cs, .int .i64 t.far, .int .i64 t.harm, .int .i64 t.many]] w23 fun e w' => e = .returned (.tuple #[.int .i64 b1, .bool true]) ∧ Below w23.heap.size w23 w')).mono ?_
  rintro e w24 ⟨rfl, hb⟩
  have hB24 : Below w23.heap.size w23 w24 := bTrans (Below.refl _ _) hb
  have HD24 := Lib.hid (bTrans HD23.out hB24)
  have HT24 := Lib.hid (HT23.out.mono hB24)
  have HTB24 := Lib.hid (HTB23.out.mono hB24)
  have HNA24 := Lib.hid (HNA23.out.mono hB24)
  have HSH24 := Lib.hid (HSH23.out.mono hB24)
  have HRX24 := Lib.hid (HRX23.out.mono hB24)
  have HU24 := Lib.hid (HU23.out.mono hB24)
  have T24 := Lib.hid (T23.out.mono hB24)
  have X24 := Lib.hid (X23.out.mono hB24)
  have U24 := Lib.hid (U23.out.mono hB24)
  clear hb hB24 HD23 HT23 HTB23 HNA23 HSH23 HRX23 HU23 T23 T_0 T_1 T_2 T_3 T_4 T_5 T_6 T_7 T_8 T_l X23 X_0 X_1 X_2 X_3 X_4 X_5 X_6 X_l U23 U_0 U_1 U_2 U_3 U_4 U_5 U_6 U_7 U_8 U_l
  obtain ⟨T_0, T_1, T_2, T_3, T_4, T_5, T_6, T_7, T_8, T_l⟩ := T24.out.c9
  obtain ⟨X_0, X_1, X_2, X_3, X_4, X_5, X_6, X_l⟩ := X24.out.c7
  obtain ⟨U_0, U_1, U_2, U_3, U_4, U_5, U_6, U_7, U_8, U_l⟩ := U24.out.c9
  go_wp2_with fail
  refine ((by have := bestV9_any Bw Bf Bo Bp A6 dw df do_ dp c6 (t.addSpot x) w24 HSU.out HU24.out HTB24.out HNA24.out HOK2.out HNE2.out; rw [HB2.out] at this; exact this : Calls Tryz.prog 55 #[.agg #[.int .i64 t.q.wells, .slice Bw t.q.nw dw, .slice Bf t.q.nf df, .slice Bo t.no do_, .slice Bp t.np dp, .slice A6 (t.ns + 1) c6, .int .i64 t.far, .int .i64 t.harm, .int .i64 t.many]] w24 fun e w' => e = .returned (.tuple #[.int .i64 b2, .bool true]) ∧ Below w24.heap.size w24 w')).mono ?_
  rintro e w25 ⟨rfl, hb⟩
  have hB25 : Below w24.heap.size w24 w25 := bTrans (Below.refl _ _) hb
  have HD25 := Lib.hid (bTrans HD24.out hB25)
  have HT25 := Lib.hid (HT24.out.mono hB25)
  have HTB25 := Lib.hid (HTB24.out.mono hB25)
  have HNA25 := Lib.hid (HNA24.out.mono hB25)
  have HSH25 := Lib.hid (HSH24.out.mono hB25)
  have HRX25 := Lib.hid (HRX24.out.mono hB25)
  have HU25 := Lib.hid (HU24.out.mono hB25)
  have T25 := Lib.hid (T24.out.mono hB25)
  have X25 := Lib.hid (X24.out.mono hB25)
  have U25 := Lib.hid (U24.out.mono hB25)
  clear hb hB25 HD24 HT24 HTB24 HNA24 HSH24 HRX24 HU24 T24 T_0 T_1 T_2 T_3 T_4 T_5 T_6 T_7 T_8 T_l X24 X_0 X_1 X_2 X_3 X_4 X_5 X_6 X_l U24 U_0 U_1 U_2 U_3 U_4 U_5 U_6 U_7 U_8 U_l
  obtain ⟨T_0, T_1, T_2, T_3, T_4, T_5, T_6, T_7, T_8, T_l⟩ := T25.out.c9
  obtain ⟨X_0, X_1, X_2, X_3, X_4, X_5, X_6, X_l⟩ := X25.out.c7
  obtain ⟨U_0, U_1, U_2, U_3, U_4, U_5, U_6, U_7, U_8, U_l⟩ := U25.out.c9
  go_wp2_with fail
  refine ((by have := cheapV9_any Aw Af Ao Ap As cw cf co cp cs t w25 HSM.out HT25.out HTB25.out HNA25.out HOK.out HNE.out; rw [HC1.out] at this; exact this : Calls Tryz.prog 56 #[.agg #[.int .i64 t.q.wells, .slice Aw t.q.nw cw, .slice Af t.q.nf cf, .slice Ao t.no co, .slice Ap t.np cp, .slice As t.ns cs, .int .i64 t.far, .int .i64 t.harm, .int .i64 t.many]] w25 fun e w' => e = .returned (.tuple #[.int .i64 k1, .bool true]) ∧ Below w25.heap.size w25 w')).mono ?_
  rintro e w26 ⟨rfl, hb⟩
  have hB26 : Below w25.heap.size w25 w26 := bTrans (Below.refl _ _) hb
  have HD26 := Lib.hid (bTrans HD25.out hB26)
  have HT26 := Lib.hid (HT25.out.mono hB26)
  have HTB26 := Lib.hid (HTB25.out.mono hB26)
  have HNA26 := Lib.hid (HNA25.out.mono hB26)
  have HSH26 := Lib.hid (HSH25.out.mono hB26)
  have HRX26 := Lib.hid (HRX25.out.mono hB26)
  have HU26 := Lib.hid (HU25.out.mono hB26)
  have T26 := Lib.hid (T25.out.mono hB26)
  have X26 := Lib.hid (X25.out.mono hB26)
  have U26 := Lib.hid (U25.out.mono hB26)
  clear hb hB26 HD25 HT25 HTB25 HNA25 HSH25 HRX25 HU25 T25 T_0 T_1 T_2 T_3 T_4 T_5 T_6 T_7 T_8 T_l X25 X_0 X_1 X_2 X_3 X_4 X_5 X_6 X_l U25 U_0 U_1 U_2 U_3 U_4 U_5 U_6 U_7 U_8 U_l
  obtain ⟨T_0, T_1, T_2, T_3, T_4, T_5, T_6, T_7, T_8, T_l⟩ := T26.out.c9
  obtain ⟨X_0, X_1, X_2, X_3, X_4, X_5, X_6, X_l⟩ := X26.out.c7
  obtain ⟨U_0, U_1, U_2, U_3, U_4, U_5, U_6, U_7, U_8, U_l⟩ := U26.out.c9
  go_wp2_with fail
  refine ((by have := cheapV9_any Bw Bf Bo Bp A6 dw df do_ dp c6 (t.addSpot x) w26 HSU.out HU26.out HTB26.out HNA26.out HOK2.out HNE2.out; rw [HC2.out] at this; exact this : Calls Tryz.prog 56 #[.agg #[.int .i64 t.q.wells, .slice Bw t.q.nw dw, .slice Bf t.q.nf df, .slice Bo t.no do_, .slice Bp t.np dp, .slice A6 (t.ns + 1) c6, .int .i64 t.far, .int .i64 t.harm, .int .i64 t.many]] w26 fun e w' => e = .returned (.tuple #[.int .i64 k2, .bool true]) ∧ Below w26.heap.size w26 w')).mono ?_
  rintro e w27 ⟨rfl, hb⟩
  have hB27 : Below w26.heap.size w26 w27 := bTrans (Below.refl _ _) hb
  have HD27 := Lib.hid (bTrans HD26.out hB27)
  have HT27 := Lib.hid (HT26.out.mono hB27)
  have HTB27 := Lib.hid (HTB26.out.mono hB27)
  have HNA27 := Lib.hid (HNA26.out.mono hB27)
  have HSH27 := Lib.hid (HSH26.out.mono hB27)
  have HRX27 := Lib.hid (HRX26.out.mono hB27)
  have HU27 := Lib.hid (HU26.out.mono hB27)
  have T27 := Lib.hid (T26.out.mono hB27)
  have X27 := Lib.hid (X26.out.mono hB27)
  have U27 := Lib.hid (U26.out.mono hB27)
  clear hb hB27 HD26 HT26 HTB26 HNA26 HSH26 HRX26 HU26 T26 T_0 T_1 T_2 T_3 T_4 T_5 T_6 T_7 T_8 T_l X26 X_0 X_1 X_2 X_3 X_4 X_5 X_6 X_l U26 U_0 U_1 U_2 U_3 U_4 U_5 U_6 U_7 U_8 U_l
  obtain ⟨T_0, T_1, T_2, T_3, T_4, T_5, T_6, T_7, T_8, T_l⟩ := T27.out.c9
  obtain ⟨X_0, X_1, X_2, X_3, X_4, X_5, X_6, X_l⟩ := X27.out.c7
  obtain ⟨U_0, U_1, U_2, U_3, U_4, U_5, U_6, U_7, U_8, U_l⟩ := U27.out.c9
  go_wp2_with fail
  refine ((by have := pairV9_any Aw Af Ao Ap As cw cf co cp cs t w27 HSM.out HT27.out HTB27.out HNA27.out HOK.out HNE.out; rw [HP1.out] at this; exact this : Calls Tryz.prog 57 #[.agg #[.int .i64 t.q.wells, .slice Aw t.q.nw cw, .slice Af t.q.nf cf, .slice Ao t.no co, .slice Ap t.np cp, .slice As t.ns cs, .int .i64 t.far, .int .i64 t.harm, .int .i64 t.many]] w27 fun e w' => e = .returned (.tuple #[.int .i64 m1, .bool true]) ∧ Below w27.heap.size w27 w')).mono ?_
  rintro e w28 ⟨rfl, hb⟩
  have hB28 : Below w27.heap.size w27 w28 := bTrans (Below.refl _ _) hb
  have HD28 := Lib.hid (bTrans HD27.out hB28)
  have HT28 := Lib.hid (HT27.out.mono hB28)
  have HTB28 := Lib.hid (HTB27.out.mono hB28)
  have HNA28 := Lib.hid (HNA27.out.mono hB28)
  have HSH28 := Lib.hid (HSH27.out.mono hB28)
  have HRX28 := Lib.hid (HRX27.out.mono hB28)
  have HU28 := Lib.hid (HU27.out.mono hB28)
  have T28 := Lib.hid (T27.out.mono hB28)
  have X28 := Lib.hid (X27.out.mono hB28)
  have U28 := Lib.hid (U27.out.mono hB28)
  clear hb hB28 HD27 HT27 HTB27 HNA27 HSH27 HRX27 HU27 T27 T_0 T_1 T_2 T_3 T_4 T_5 T_6 T_7 T_8 T_l X27 X_0 X_1 X_2 X_3 X_4 X_5 X_6 X_l U27 U_0 U_1 U_2 U_3 U_4 U_5 U_6 U_7 U_8 U_l
  obtain ⟨T_0, T_1, T_2, T_3, T_4, T_5, T_6, T_7, T_8, T_l⟩ := T28.out.c9
  obtain ⟨X_0, X_1, X_2, X_3, X_4, X_5, X_6, X_l⟩ := X28.out.c7
  obtain ⟨U_0, U_1, U_2, U_3, U_4, U_5, U_6, U_7, U_8, U_l⟩ := U28.out.c9
  go_wp2_with fail
  refine ((by have := pairV9_any Bw Bf Bo Bp A6 dw df do_ dp c6 (t.addSpot x) w28 HSU.out HU28.out HTB28.out HNA28.out HOK2.out HNE2.out; rw [HP2.out] at this; exact this : Calls Tryz.prog 57 #[.agg #[.int .i64 t.q.wells, .slice Bw t.q.nw dw, .slice Bf t.q.nf df, .slice Bo t.no do_, .slice Bp t.np dp, .slice A6 (t.ns + 1) c6, .int .i64 t.far, .int .i64 t.harm, .int .i64 t.many]] w28 fun e w' => e = .returned (.tuple #[.int .i64 m2, .bool true]) ∧ Below w28.heap.size w28 w')).mono ?_
  rintro e w29 ⟨rfl, hb⟩
  have hB29 : Below w28.heap.size w28 w29 := bTrans (Below.refl _ _) hb
  have HD29 := Lib.hid (bTrans HD28.out hB29)
  have HT29 := Lib.hid (HT28.out.mono hB29)
  have HTB29 := Lib.hid (HTB28.out.mono hB29)
  have HNA29 := Lib.hid (HNA28.out.mono hB29)
  have HSH29 := Lib.hid (HSH28.out.mono hB29)
  have HRX29 := Lib.hid (HRX28.out.mono hB29)
  have HU29 := Lib.hid (HU28.out.mono hB29)
  have T29 := Lib.hid (T28.out.mono hB29)
  have X29 := Lib.hid (X28.out.mono hB29)
  have U29 := Lib.hid (U28.out.mono hB29)
  clear hb hB29 HD28 HT28 HTB28 HNA28 HSH28 HRX28 HU28 T28 T_0 T_1 T_2 T_3 T_4 T_5 T_6 T_7 T_8 T_l X28 X_0 X_1 X_2 X_3 X_4 X_5 X_6 X_l U28 U_0 U_1 U_2 U_3 U_4 U_5 U_6 U_7 U_8 U_l
  obtain ⟨T_0, T_1, T_2, T_3, T_4, T_5, T_6, T_7, T_8, T_l⟩ := T29.out.c9
  obtain ⟨X_0, X_1, X_2, X_3, X_4, X_5, X_6, X_l⟩ := X29.out.c7
  obtain ⟨U_0, U_1, U_2, U_3, U_4, U_5, U_6, U_7, U_8, U_l⟩ := U29.out.c9
  go_wp2_with fail
  clear i1 i2 i3 j1 j2 j3 l1 l2 l3
  obtain ⟨bb, hbb⟩ : ∃ b, t.hasB sp = b := ⟨_, rfl⟩
  refine (hbb ▸ isSpotN9_any Aw Af Ao Ap As cw cf co cp cs t sp _ HSM.out.ns).mono ?_
  rintro e w30 ⟨rfl, hb⟩
  have hB30 : Below w29.heap.size w29 w30 := bTrans (Below.refl _ _) hb
  have HD30 := Lib.hid (bTrans HD29.out hB30)
  have HT30 := Lib.hid (HT29.out.mono hB30)
  have HTB30 := Lib.hid (HTB29.out.mono hB30)
  have HNA30 := Lib.hid (HNA29.out.mono hB30)
  have HSH30 := Lib.hid (HSH29.out.mono hB30)
  have HRX30 := Lib.hid (HRX29.out.mono hB30)
  have HU30 := Lib.hid (HU29.out.mono hB30)
  have T30 := Lib.hid (T29.out.mono hB30)
  have X30 := Lib.hid (X29.out.mono hB30)
  have U30 := Lib.hid (U29.out.mono hB30)
  clear hb hB30 HD29 HT29 HTB29 HNA29 HSH29 HRX29 HU29 T29 T_0 T_1 T_2 T_3 T_4 T_5 T_6 T_7 T_8 T_l X29 X_0 X_1 X_2 X_3 X_4 X_5 X_6 X_l U29 U_0 U_1 U_2 U_3 U_4 U_5 U_6 U_7 U_8 U_l
  obtain ⟨T_0, T_1, T_2, T_3, T_4, T_5, T_6, T_7, T_8, T_l⟩ := T30.out.c9
  obtain ⟨X_0, X_1, X_2, X_3, X_4, X_5, X_6, X_l⟩ := X30.out.c7
  obtain ⟨U_0, U_1, U_2, U_3, U_4, U_5, U_6, U_7, U_8, U_l⟩ := U30.out.c9
  cases bb
  case false =>
    clear hbb
    go_wp2_with fail
    refine (works9_any _ HTB30.out HNA30.out).mono ?_
    rintro e w31 ⟨rfl, hb⟩
    have hB31 : Below w30.heap.size w30 w31 := bTrans (Below.refl _ _) hb
    have HD31 := Lib.hid (bTrans HD30.out hB31)
    have HT31 := Lib.hid (HT30.out.mono hB31)
    have HTB31 := Lib.hid (HTB30.out.mono hB31)
    have HNA31 := Lib.hid (HNA30.out.mono hB31)
    have HSH31 := Lib.hid (HSH30.out.mono hB31)
    have HRX31 := Lib.hid (HRX30.out.mono hB31)
    have HU31 := Lib.hid (HU30.out.mono hB31)
    have T31 := Lib.hid (T30.out.mono hB31)
    have X31 := Lib.hid (X30.out.mono hB31)
    have U31 := Lib.hid (U30.out.mono hB31)
    clear hb hB31 HD30 HT30 HTB30 HNA30 HSH30 HRX30 HU30 T30 T_0 T_1 T_2 T_3 T_4 T_5 T_6 T_7 T_8 T_l X30 X_0 X_1 X_2 X_3 X_4 X_5 X_6 X_l U30 U_0 U_1 U_2 U_3 U_4 U_5 U_6 U_7 U_8 U_l
    obtain ⟨T_0, T_1, T_2, T_3, T_4, T_5, T_6, T_7, T_8, T_l⟩ := T31.out.c9
    obtain ⟨X_0, X_1, X_2, X_3, X_4, X_5, X_6, X_l⟩ := X31.out.c7
    obtain ⟨U_0, U_1, U_2, U_3, U_4, U_5, U_6, U_7, U_8, U_l⟩ := U31.out.c9
    go_wp2_with fail
    go_ret
    exact ⟨rfl, HD31.out⟩
  have hn := hasB_iff.1 hbb
  obtain ⟨i, rfl⟩ : ∃ i : Nat, sp = (i : Int) := ⟨sp.toNat, by omega⟩
  have HI := Lib.hid (show i < t.ns by omega)
  clear hn hbb
  go_wp2_with fail
  have HI2 := Lib.hid (show i < (t.addSpot x).ns from by have := HI.out; show i < t.ns + 1; omega)
  obtain ⟨z, hz⟩ : ∃ z, (t.who i).length = z := ⟨_, rfl⟩
  have HZ := Lib.hid hz
  have HWE := Lib.hid (HTW.out.whoL HI.out)
  have HZ2 := Lib.hid (show ((t.addSpot x).who i).length = z by rw [HWE.out, hz])
  have HZL := Lib.hid (show z ≤ 9223372036854775807 by have h1 := selTo_len (t.whoB i) t.m; have h2 := Pt.m_no HOK.out; have h3 := HSM.out.no; rw [← hz]; unfold Pt.who; omega)
  clear hz
  refine ((by have := whoOutP_any Aw Af Ao Ap As cw cf co cp cs t (i : Int) w30 HSM.out HT30.out HTB30.out; rw [hasB_in HI.out, Pt.knowErr_ok HOK.out HNE.out, Int.toNat_natCast] at this; exact this : Calls Tryz.prog 30 #[.agg #[.int .i64 t.q.wells, .slice Aw t.q.nw cw, .slice Af t.q.nf cf, .slice Ao t.no co, .slice Ap t.np cp, .slice As t.ns cs, .int .i64 t.far, .int .i64 t.harm, .int .i64 t.many], .int .i64 (i : Int)] w30 fun e w' => NumsOut w' w30.heap.size 0 (t.who i) e ∧ Below w30.heap.size w30 w')).mono ?_
  rintro e w31 ⟨ho, hb⟩
  obtain ⟨v, rfl, hv⟩ := ho.1 rfl
  obtain ⟨A6w, c6w, rfl, hi6⟩ := hv.lst
  rw [HZ.out] at hi6 ⊢
  have hB31 : Below w30.heap.size w30 w31 := bTrans (Below.refl _ _) hb
  have HD31 := Lib.hid (bTrans HD30.out hB31)
  have HT31 := Lib.hid (HT30.out.mono hB31)
  have HTB31 := Lib.hid (HTB30.out.mono hB31)
  have HNA31 := Lib.hid (HNA30.out.mono hB31)
  have HSH31 := Lib.hid (HSH30.out.mono hB31)
  have HRX31 := Lib.hid (HRX30.out.mono hB31)
  have HU31 := Lib.hid (HU30.out.mono hB31)
  have HW31 := Lib.hid (hi6)
  have T31 := Lib.hid (T30.out.mono hB31)
  have X31 := Lib.hid (X30.out.mono hB31)
  have U31 := Lib.hid (U30.out.mono hB31)
  clear hb hB31 HD30 HT30 HTB30 HNA30 HSH30 HRX30 HU30 T30 T_0 T_1 T_2 T_3 T_4 T_5 T_6 T_7 T_8 T_l X30 X_0 X_1 X_2 X_3 X_4 X_5 X_6 X_l U30 U_0 U_1 U_2 U_3 U_4 U_5 U_6 U_7 U_8 U_l
  obtain ⟨T_0, T_1, T_2, T_3, T_4, T_5, T_6, T_7, T_8, T_l⟩ := T31.out.c9
  obtain ⟨X_0, X_1, X_2, X_3, X_4, X_5, X_6, X_l⟩ := X31.out.c7
  obtain ⟨U_0, U_1, U_2, U_3, U_4, U_5, U_6, U_7, U_8, U_l⟩ := U31.out.c9
  clear ho hv hi6
  go_wp2_with fail
  refine ((by have := whoOutP_any Bw Bf Bo Bp A6 dw df do_ dp c6 (t.addSpot x) (i : Int) w31 HSU.out HU31.out HTB31.out; rw [hasB_in HI2.out, Pt.knowErr_ok HOK2.out HNE2.out, Int.toNat_natCast, HWE.out] at this; exact this : Calls Tryz.prog 30 #[.agg #[.int .i64 t.q.wells, .slice Bw t.q.nw dw, .slice Bf t.q.nf df, .slice Bo t.no do_, .slice Bp t.np dp, .slice A6 (t.ns + 1) c6, .int .i64 t.far, .int .i64 t.harm, .int .i64 t.many], .int .i64 (i : Int)] w31 fun e w' => NumsOut w' w31.heap.size 0 (t.who i) e ∧ Below w31.heap.size w31 w')).mono ?_
  rintro e w32 ⟨ho, hb⟩
  obtain ⟨v, rfl, hv⟩ := ho.1 rfl
  obtain ⟨A7w, c7w, rfl, hi6⟩ := hv.lst
  rw [HZ.out] at hi6 ⊢
  have hB32 : Below w31.heap.size w31 w32 := bTrans (Below.refl _ _) hb
  have HD32 := Lib.hid (bTrans HD31.out hB32)
  have HT32 := Lib.hid (HT31.out.mono hB32)
  have HTB32 := Lib.hid (HTB31.out.mono hB32)
  have HNA32 := Lib.hid (HNA31.out.mono hB32)
  have HSH32 := Lib.hid (HSH31.out.mono hB32)
  have HRX32 := Lib.hid (HRX31.out.mono hB32)
  have HU32 := Lib.hid (HU31.out.mono hB32)
  have HW32 := Lib.hid (HW31.out.mono hB32)
  have HVV32 := Lib.hid (hi6)
  have T32 := Lib.hid (T31.out.mono hB32)
  have X32 := Lib.hid (X31.out.mono hB32)
  have U32 := Lib.hid (U31.out.mono hB32)
  clear hb hB32 HD31 HT31 HTB31 HNA31 HSH31 HRX31 HU31 HW31 T31 T_0 T_1 T_2 T_3 T_4 T_5 T_6 T_7 T_8 T_l X31 X_0 X_1 X_2 X_3 X_4 X_5 X_6 X_l U31 U_0 U_1 U_2 U_3 U_4 U_5 U_6 U_7 U_8 U_l
  obtain ⟨T_0, T_1, T_2, T_3, T_4, T_5, T_6, T_7, T_8, T_l⟩ := T32.out.c9
  obtain ⟨X_0, X_1, X_2, X_3, X_4, X_5, X_6, X_l⟩ := X32.out.c7
  obtain ⟨U_0, U_1, U_2, U_3, U_4, U_5, U_6, U_7, U_8, U_l⟩ := U32.out.c9
  clear ho hv hi6
  go_wp2_with fail
  obtain ⟨er, her⟩ : ∃ y, t.decErr (i : Int) = y := ⟨_, rfl⟩
  obtain ⟨L, hL⟩ : ∃ y, lstO (t.decErr (i : Int)) (t.decL (i : Int)) = y := ⟨_, rfl⟩
  have HEX := Lib.hid (And.intro her hL)
  clear her hL
  obtain ⟨zl, hzl⟩ : ∃ y, (lstO (t.decErr (i : Int)) (t.decL (i : Int))).length = y := ⟨_, rfl⟩
  have HLN := Lib.hid hzl
  clear hzl
  have HLZ := Lib.hid (show zl = L.length by rw [← HEX.out.2, HLN.out])
  have HLL := Lib.hid (show L.length ≤ 100000 by rw [← HEX.out.2]; exact decL_len)
  have HDE := Lib.hid (addSpot_err (x := x) HOK.out HOK2.out HI.out)
  have HDL := Lib.hid (addSpot_decL t x HI.out)
  refine ((decideP9_any Aw Af Ao Ap As cw cf co cp cs t (i : Int) w32 HSM.out HT32.out HTB32.out)).mono ?_
  rintro e w33 ⟨ho, hb⟩
  obtain ⟨A8, c8, rfl, hr⟩ := ho.o
  rw [HLN.out]
  rw [HEX.out.2] at hr
  rw [HEX.out.1]
  have hB33 : Below w32.heap.size w32 w33 := bTrans (Below.refl _ _) hb
  have HD33 := Lib.hid (bTrans HD32.out hB33)
  have HT33 := Lib.hid (HT32.out.mono hB33)
  have HTB33 := Lib.hid (HTB32.out.mono hB33)
  have HNA33 := Lib.hid (HNA32.out.mono hB33)
  have HSH33 := Lib.hid (HSH32.out.mono hB33)
  have HRX33 := Lib.hid (HRX32.out.mono hB33)
  have HU33 := Lib.hid (HU32.out.mono hB33)
  have HW33 := Lib.hid (HW32.out.mono hB33)
  have HVV33 := Lib.hid (HVV32.out.mono hB33)
  have HD833 := Lib.hid (hr)
  have T33 := Lib.hid (T32.out.mono hB33)
  have X33 := Lib.hid (X32.out.mono hB33)
  have U33 := Lib.hid (U32.out.mono hB33)
  clear hb hB33 HD32 HT32 HTB32 HNA32 HSH32 HRX32 HU32 HW32 HVV32 T32 T_0 T_1 T_2 T_3 T_4 T_5 T_6 T_7 T_8 T_l X32 X_0 X_1 X_2 X_3 X_4 X_5 X_6 X_l U32 U_0 U_1 U_2 U_3 U_4 U_5 U_6 U_7 U_8 U_l
  obtain ⟨T_0, T_1, T_2, T_3, T_4, T_5, T_6, T_7, T_8, T_l⟩ := T33.out.c9
  obtain ⟨X_0, X_1, X_2, X_3, X_4, X_5, X_6, X_l⟩ := X33.out.c7
  obtain ⟨U_0, U_1, U_2, U_3, U_4, U_5, U_6, U_7, U_8, U_l⟩ := U33.out.c9
  clear ho hr
  go_wp2_with fail
  refine ((by have := decideP9_any Bw Bf Bo Bp A6 dw df do_ dp c6 (t.addSpot x) (i : Int) w33 HSU.out HU33.out HTB33.out; rw [HDE.out, HDL.out] at this; exact this : Calls Tryz.prog 59 #[.agg #[.int .i64 t.q.wells, .slice Bw t.q.nw dw, .slice Bf t.q.nf df, .slice Bo t.no do_, .slice Bp t.np dp, .slice A6 (t.ns + 1) c6, .int .i64 t.far, .int .i64 t.harm, .int .i64 t.many], .int .i64 (i : Int)] w33 fun e w' => RefLst w' (t.decErr (i : Int)) (t.decL (i : Int)) e ∧ Below w33.heap.size w33 w')).mono ?_
  rintro e w34 ⟨ho, hb⟩
  obtain ⟨A9, c9, rfl, hr⟩ := ho.o
  rw [HLN.out]
  rw [HEX.out.2] at hr
  rw [HEX.out.1]
  have hB34 : Below w33.heap.size w33 w34 := bTrans (Below.refl _ _) hb
  have HD34 := Lib.hid (bTrans HD33.out hB34)
  have HT34 := Lib.hid (HT33.out.mono hB34)
  have HTB34 := Lib.hid (HTB33.out.mono hB34)
  have HNA34 := Lib.hid (HNA33.out.mono hB34)
  have HSH34 := Lib.hid (HSH33.out.mono hB34)
  have HRX34 := Lib.hid (HRX33.out.mono hB34)
  have HU34 := Lib.hid (HU33.out.mono hB34)
  have HW34 := Lib.hid (HW33.out.mono hB34)
  have HVV34 := Lib.hid (HVV33.out.mono hB34)
  have HD834 := Lib.hid (HD833.out.mono hB34)
  have HD934 := Lib.hid (hr)
  have T34 := Lib.hid (T33.out.mono hB34)
  have X34 := Lib.hid (X33.out.mono hB34)
  have U34 := Lib.hid (U33.out.mono hB34)
  clear hb hB34 HD33 HT33 HTB33 HNA33 HSH33 HRX33 HU33 HW33 HVV33 HD833 T33 T_0 T_1 T_2 T_3 T_4 T_5 T_6 T_7 T_8 T_l X33 X_0 X_1 X_2 X_3 X_4 X_5 X_6 X_l U33 U_0 U_1 U_2 U_3 U_4 U_5 U_6 U_7 U_8 U_l
  obtain ⟨T_0, T_1, T_2, T_3, T_4, T_5, T_6, T_7, T_8, T_l⟩ := T34.out.c9
  obtain ⟨X_0, X_1, X_2, X_3, X_4, X_5, X_6, X_l⟩ := X34.out.c7
  obtain ⟨U_0, U_1, U_2, U_3, U_4, U_5, U_6, U_7, U_8, U_l⟩ := U34.out.c9
  clear ho hr
  go_wp2_with fail
  refine (sameInts_t A6w A7w z c6w c7w _ _ HZL.out HW34.out HVV34.out).mono ?_
  rintro e w35 ⟨rfl, hb⟩
  have hB35 : Below w34.heap.size w34 w35 := bTrans (Below.refl _ _) hb
  have HD35 := Lib.hid (bTrans HD34.out hB35)
  have HT35 := Lib.hid (HT34.out.mono hB35)
  have HTB35 := Lib.hid (HTB34.out.mono hB35)
  have HNA35 := Lib.hid (HNA34.out.mono hB35)
  have HSH35 := Lib.hid (HSH34.out.mono hB35)
  have HRX35 := Lib.hid (HRX34.out.mono hB35)
  have HU35 := Lib.hid (HU34.out.mono hB35)
  have HW35 := Lib.hid (HW34.out.mono hB35)
  have HVV35 := Lib.hid (HVV34.out.mono hB35)
  have HD835 := Lib.hid (HD834.out.mono hB35)
  have HD935 := Lib.hid (HD934.out.mono hB35)
  have T35 := Lib.hid (T34.out.mono hB35)
  have X35 := Lib.hid (X34.out.mono hB35)
  have U35 := Lib.hid (U34.out.mono hB35)
  clear hb hB35 HD34 HT34 HTB34 HNA34 HSH34 HRX34 HU34 HW34 HVV34 HD834 HD934 T34 T_0 T_1 T_2 T_3 T_4 T_5 T_6 T_7 T_8 T_l X34 X_0 X_1 X_2 X_3 X_4 X_5 X_6 X_l U34 U_0 U_1 U_2 U_3 U_4 U_5 U_6 U_7 U_8 U_l
  obtain ⟨T_0, T_1, T_2, T_3, T_4, T_5, T_6, T_7, T_8, T_l⟩ := T35.out.c9
  obtain ⟨X_0, X_1, X_2, X_3, X_4, X_5, X_6, X_l⟩ := X35.out.c7
  obtain ⟨U_0, U_1, U_2, U_3, U_4, U_5, U_6, U_7, U_8, U_l⟩ := U35.out.c9
  go_wp2_with fail
  refine ((by have := sameTests_any A8 A9 c8 c9 L L w35 HLL.out HLL.out HD835.out HD935.out; rw [← HLZ.out, show decide (L = L) = true from decide_eq_true rfl] at this; exact this : Calls Tryz.prog 61 #[.slice A8 zl c8, .slice A9 zl c9] w35 fun e w' => e = .returned (.bool true) ∧ Below w35.heap.size w35 w')).mono ?_
  rintro e w36 ⟨rfl, hb⟩
  have hB36 : Below w35.heap.size w35 w36 := bTrans (Below.refl _ _) hb
  have HD36 := Lib.hid (bTrans HD35.out hB36)
  have HT36 := Lib.hid (HT35.out.mono hB36)
  have HTB36 := Lib.hid (HTB35.out.mono hB36)
  have HNA36 := Lib.hid (HNA35.out.mono hB36)
  have HSH36 := Lib.hid (HSH35.out.mono hB36)
  have HRX36 := Lib.hid (HRX35.out.mono hB36)
  have HU36 := Lib.hid (HU35.out.mono hB36)
  have HW36 := Lib.hid (HW35.out.mono hB36)
  have HVV36 := Lib.hid (HVV35.out.mono hB36)
  have HD836 := Lib.hid (HD835.out.mono hB36)
  have HD936 := Lib.hid (HD935.out.mono hB36)
  have T36 := Lib.hid (T35.out.mono hB36)
  have X36 := Lib.hid (X35.out.mono hB36)
  have U36 := Lib.hid (U35.out.mono hB36)
  clear hb hB36 HD35 HT35 HTB35 HNA35 HSH35 HRX35 HU35 HW35 HVV35 HD835 HD935 T35 T_0 T_1 T_2 T_3 T_4 T_5 T_6 T_7 T_8 T_l X35 X_0 X_1 X_2 X_3 X_4 X_5 X_6 X_l U35 U_0 U_1 U_2 U_3 U_4 U_5 U_6 U_7 U_8 U_l
  obtain ⟨T_0, T_1, T_2, T_3, T_4, T_5, T_6, T_7, T_8, T_l⟩ := T36.out.c9
  obtain ⟨X_0, X_1, X_2, X_3, X_4, X_5, X_6, X_l⟩ := X36.out.c7
  obtain ⟨U_0, U_1, U_2, U_3, U_4, U_5, U_6, U_7, U_8, U_l⟩ := U36.out.c9
  go_wp2_with fail
  refine (works9_any _ HTB36.out HNA36.out).mono ?_
  rintro e w37 ⟨rfl, hb⟩
  have hB37 : Below w36.heap.size w36 w37 := bTrans (Below.refl _ _) hb
  have HD37 := Lib.hid (bTrans HD36.out hB37)
  have HT37 := Lib.hid (HT36.out.mono hB37)
  have HTB37 := Lib.hid (HTB36.out.mono hB37)
  have HNA37 := Lib.hid (HNA36.out.mono hB37)
  have HSH37 := Lib.hid (HSH36.out.mono hB37)
  have HRX37 := Lib.hid (HRX36.out.mono hB37)
  have HU37 := Lib.hid (HU36.out.mono hB37)
  have HW37 := Lib.hid (HW36.out.mono hB37)
  have HVV37 := Lib.hid (HVV36.out.mono hB37)
  have HD837 := Lib.hid (HD836.out.mono hB37)
  have HD937 := Lib.hid (HD936.out.mono hB37)
  have T37 := Lib.hid (T36.out.mono hB37)
  have X37 := Lib.hid (X36.out.mono hB37)
  have U37 := Lib.hid (U36.out.mono hB37)
  clear hb hB37 HD36 HT36 HTB36 HNA36 HSH36 HRX36 HU36 HW36 HVV36 HD836 HD936 T36 T_0 T_1 T_2 T_3 T_4 T_5 T_6 T_7 T_8 T_l X36 X_0 X_1 X_2 X_3 X_4 X_5 X_6 X_l U36 U_0 U_1 U_2 U_3 U_4 U_5 U_6 U_7 U_8 U_l
  obtain ⟨T_0, T_1, T_2, T_3, T_4, T_5, T_6, T_7, T_8, T_l⟩ := T37.out.c9
  obtain ⟨X_0, X_1, X_2, X_3, X_4, X_5, X_6, X_l⟩ := X37.out.c7
  obtain ⟨U_0, U_1, U_2, U_3, U_4, U_5, U_6, U_7, U_8, U_l⟩ := U37.out.c9
  go_wp2_with fail
  go_ret
  exact ⟨rfl, HD37.out⟩
end Go.Proofs.YtjpfdhhiofjpbaaGreatDoor

namespace Go.Proofs.YtjpfdhhiofjpbaaGreatDoor
open Go.RowKit Go.Sort Go.ChangeShapes Go.WideShapes Go.ChangeAt Go.Deep
section
variable {H : Type} {enc : TypeId × Value → H} {W : World} {base b0 : Nat} {r : Reach} {sp : Nat → Bool} {held : Bool}
set_option maxRecDepth 100000 in
theorem spotP_in {v : Value} {d : DataW H} {p : List MemPlace} (hv : Value.okWide Tryz.prog W r b0 60 v) (hf : Fit Tryz.prog 60 d) (h : DataW.Trod enc Tryz.prog W base sp held 60 v d p) :
    ∃ (Ar Af Aw : Option Addr) (cr cf cw : Nat) (y : Spot), v = .agg #[.int .i64 y.at_, .slice Ar y.sh.nr cr, .slice Af y.sh.nf cf, .int .i64 y.sh.deep, .int .i64 y.sh.haul, .int .i64 y.sh.rest, .slice Aw y.fl.n cw] ∧ ShAt W Ar Af y.sh ∧ RowsAt W Aw y.fl ∧ y.Fits := by
  obtain ⟨cs, rfl, hsz⟩ := okWide_struct Tryz.underlying60 hv
  obtain ⟨l⟩ := cs
  obtain ⟨fuel, hf'⟩ := h
  obtain ⟨Ar, Af, Aw, cr, cf, cw, y, e, h1, h2, h3⟩ := spotP_fit (x := (d, p)) hf hf'
  have e : l = _ := e
  subst e
  exact ⟨Ar, Af, Aw, cr, cf, cw, y, rfl, h1, h2, h3⟩
end
end Go.Proofs.YtjpfdhhiofjpbaaGreatDoor

