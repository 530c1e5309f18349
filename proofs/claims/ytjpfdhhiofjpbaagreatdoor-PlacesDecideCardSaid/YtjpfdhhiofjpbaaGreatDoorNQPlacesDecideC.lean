/- Parts joined: what the claim PlacesDecide needs beyond the others. -/
import Derived.Test.YtjpfdhhiofjpbaaGreatDoorNQPlacesDecideB
set_option linter.unusedSimpArgs false
set_option linter.unusedVariables false
namespace Go.Proofs.YtjpfdhhiofjpbaaGreatDoor
open Go.RowKit Go.Sort
/-- a pointer to a street -/
def strS (v : Value) : Prop := ∃ C, v = .tuple #[.pointer (some ⟨C, 0, none⟩), .int .i64 0]
def strR (Aw Af Ao Ap As : Option Addr) (cw cf co cp cs : Nat) (t : Pt) (w : World) (v : Value) : Prop := ∀ C, v = .tuple #[.pointer (some ⟨C, 0, none⟩), .int .i64 0] → ∃ Al cl, StreetAt w C Aw Af Ao Ap As cw cf co cp cs t Al cl
theorem strG {Aw Af Ao Ap As : Option Addr} {cw cf co cp cs : Nat} {t : Pt} : (Stir.held strS (strR Aw Af Ao Ap As cw cf co cp cs t)).good := ⟨⟨_, 0, rfl⟩, fun _ _ _ hb h C e => by
  obtain ⟨Al, cl, h⟩ := h C e
  exact ⟨Al, cl, h.mono hb⟩⟩
theorem own_cap {α : Type} {E : Elem α} {w : World} {N : Nat} {v : Value} {l : List α} (h : OwnE E w N v l) : ∃ A c, v = .slice A l.length c ∧ RowAt w A (E.cells l) ∧ l.length ≤ c ∧ c ≤ 9223372036854775807 := by
  obtain ⟨A, c, e, hr⟩ := h.read
  rcases h.2 with ⟨e2, h1⟩ | ⟨g, cap, cur, e2, _, _, h3, h4, _⟩
  · rw [e] at e2
    injection e2 with _ _ e3
    subst e3
    exact ⟨A, 0, e, hr, Nat.le_of_eq h1, by omega⟩
  · rw [e] at e2
    injection e2 with _ _ e3
    subst e3
    exact ⟨A, c, e, hr, h3, by unfold maxLen at h4; omega⟩
def stpS (v : Value) : Prop := ∃ C, v = .pointer (some ⟨C, 0, none⟩)
def stpR (Aw Af Ao Ap As : Option Addr) (cw cf co cp cs : Nat) (t : Pt) (w : World) (v : Value) : Prop := ∀ C, v = .pointer (some ⟨C, 0, none⟩) → ∃ Al cl, StreetAt w C Aw Af Ao Ap As cw cf co cp cs t Al cl
theorem stpG {Aw Af Ao Ap As : Option Addr} {cw cf co cp cs : Nat} {t : Pt} : (Stir.held stpS (stpR Aw Af Ao Ap As cw cf co cp cs t)).good := ⟨⟨_, 0, rfl⟩, fun _ _ _ hb h C e => by
  obtain ⟨Al, cl, h⟩ := h C e
  exact ⟨Al, cl, h.mono hb⟩⟩
theorem StreetAt.setNew {w : World} {C : Nat} {Aw Af Ao Ap As : Option Addr} {cw cf co cp cs : Nat} {t : Pt} {Al : Option Addr} {cl : Nat} (h : StreetAt w C Aw Af Ao Ap As cw cf co cp cs t Al cl) {b : Nat} {T : TypeId} (hb : TBox w b T #[.pointer none]) (v : Value) (hp : PAt (w.setCell ⟨b, 0, none⟩ v) Aw Af Ao Ap As t) : StreetAt (w.setCell ⟨b, 0, none⟩ v) C Aw Af Ao Ap As cw cf co cp cs t Al cl := by
  have hk : ∀ k, k ≠ b → (w.setCell ⟨b, 0, none⟩ v).heap[k]? = w.heap[k]? := fun k hk => Below.heap_setCell w ⟨b, 0, none⟩ _ k hk
  have hbC : b ≠ C := fun e => by
    subst e
    have h1 : w.heap[b]? = some _ := h.box
    have h2 : w.heap[b]? = some _ := hb
    rw [h1] at h2
    simp at h2
  refine ⟨h.box.other hbC 0 v, ?_, hp, h.sep⟩
  rcases h.left with h0 | ⟨b1, o, hA, hlt, hc⟩
  · exact .inl h0
  · rcases Nat.eq_zero_or_pos t.q.leftL.length with h0 | h0
    · exact .inl h0
    · have hne : b1 ≠ b := fun e => by
        subst e
        have h1 := hc 0 h0
        have h2 := hb.cell (o + 0)
        rw [h1] at h2
        cases o with
        | zero => simp at h2
        | succ o => simp at h2
      exact .inr ⟨b1, o, hA, by simpa [World.setCell] using hlt, fun j hj => (World.cell?_of_block (a := ⟨b1, _, none⟩) (hk b1 hne)).trans (hc j hj)⟩
set_option maxHeartbeats 16000000 in
set_option maxRecDepth 100000 in
theorem decideP9_any (Aw Af Ao Ap As : Option Addr) (cw cf co cp cs : Nat) (t : Pt) (n : Int) (w : World) (hs : t.Small) (hT : PAt w Aw Af Ao Ap As t) (hB : TabAt w) :
    Calls Tryz.prog 59 #[.agg #[.int .i64 t.q.wells, .slice Aw t.q.nw cw, .slice Af t.q.nf cf, .slice Ao t.no co, .slice Ap t.np cp, .slice As t.ns cs, .int .i64 t.far, .int .i64 t.harm, .int .i64 t.many], .int .i64 n] w fun e w' => RefLst w' (t.decErr n) (t.decL n) e ∧ Below w.heap.size w w' := by
  obtain ⟨bb, hbb⟩ : ∃ b, t.hasB n = b := ⟨_, rfl⟩
  obtain ⟨er, her⟩ : ∃ v, t.knowErr bb = v := ⟨_, rfl⟩
  have HC1 := Lib.hid (fun w => hbb ▸ hasP_any Aw Af Ao Ap As cw cf co cp cs t n w hs.ns : ∀ w : World, Calls Tryz.prog 87 #[.agg #[.int .i64 t.q.wells, .slice Aw t.q.nw cw, .slice Af t.q.nf cf, .slice Ao t.no co, .slice Ap t.np cp, .slice As t.ns cs, .int .i64 t.far, .int .i64 t.harm, .int .i64 t.many], .int .i64 n] w fun e w' => e = .returned (.bool bb) ∧ Below w.heap.size w w')
  have HE := Lib.hid (show t.decErr n = if er = 0 then (if t.decB n.toNat t.q.tests then 0 else 3) else er by unfold Pt.decErr; rw [hbb, her])
  have HER := Lib.hid her
  have HBB := Lib.hid hbb
  clear hbb her
  have HD0 := Lib.hid (Below.refl w.heap.size w)
  have HSM := Lib.hid hs
  have HT0 := Lib.hid hT
  have HTB0 := Lib.hid hB
  clear hs hT hB
  go_enter Tryz.func59, Tryz.ntmps59
  by_cases he : er = 0
  case neg =>
    have g0 : (er != 0) = true := by simp [he]
    have HNZ := Lib.hid he
    have HR := Lib.hid (HE.out.trans (if_neg he))
    clear he
    go_wp2_with fail
    have HCO := Lib.hid (fun (w' : World) (hb : Below ((w.alloc (.cells #[.int .i64 t.q.wells, .slice Aw t.q.nw cw, .slice Af t.q.nf cf, .slice Ao t.no co, .slice Ap t.np cp, .slice As t.ns cs, .int .i64 t.far, .int .i64 t.harm, .int .i64 t.many] 29)).alloc (.cells #[.int .i64 n] 3)).heap.size ((w.alloc (.cells #[.int .i64 t.q.wells, .slice Aw t.q.nw cw, .slice Af t.q.nf cf, .slice Ao t.no co, .slice Ap t.np cp, .slice As t.ns cs, .int .i64 t.far, .int .i64 t.harm, .int .i64 t.many] 29)).alloc (.cells #[.int .i64 n] 3)) w') => ((openP_any Aw Af Ao Ap As cw cf co cp cs t bb w' HSM.out ((HT0.out.mono (bAlloc (bAlloc (Below.refl _ _) (.cells #[.int .i64 t.q.wells, .slice Aw t.q.nw cw, .slice Af t.q.nf cf, .slice Ao t.no co, .slice Ap t.np cp, .slice As t.ns cs, .int .i64 t.far, .int .i64 t.harm, .int .i64 t.many] 29)) (.cells #[.int .i64 n] 3))).mono hb) ((HTB0.out.mono (bAlloc (bAlloc (Below.refl _ _) (.cells #[.int .i64 t.q.wells, .slice Aw t.q.nw cw, .slice Af t.q.nf cf, .slice Ao t.no co, .slice Ap t.np cp, .slice As t.ns cs, .int .i64 t.far, .int .i64 t.harm, .int .i64 t.many] 29)) (.cells #[.int .i64 n] 3))).mono hb)).mono fun e w'' h => ⟨(HER.out ▸ h.1 : StrOut w'' w'.heap.size Aw Af Ao Ap As cw cf co cp cs t er e), h.2⟩ : Calls Tryz.prog 94 #[.agg #[.int .i64 t.q.wells, .slice Aw t.q.nw cw, .slice Af t.q.nf cf, .slice Ao t.no co, .slice Ap t.np cp, .slice As t.ns cs, .int .i64 t.far, .int .i64 t.harm, .int .i64 t.many], .bool bb] w' fun e w'' => StrOut w'' w'.heap.size Aw Af Ao Ap As cw cf co cp cs t er e ∧ Below w'.heap.size w' w''))
    refine wp_region_late 9 7 [.const (.agg #[.int .i64 t.q.wells, .slice Aw t.q.nw cw, .slice Af t.q.nf cf, .slice Ao t.no co, .slice Ap t.np cp, .slice As t.ns cs, .int .i64 t.far, .int .i64 t.harm, .int .i64 t.many]), .const (.agg #[.int .i64 t.q.wells, .slice Aw t.q.nw cw, .slice Af t.q.nf cf, .slice Ao t.no co, .slice Ap t.np cp, .slice As t.ns cs, .int .i64 t.far, .int .i64 t.harm, .int .i64 t.many]), .const (.int .i64 n), .const (.bool bb), .const (.tuple #[.pointer none, .int .i64 er]), .const (.tuple #[.pointer none, .int .i64 er]), .const (.pointer none), .const (.int .i64 er), .held boxS (boxR ((w.alloc (.cells #[.int .i64 t.q.wells, .slice Aw t.q.nw cw, .slice Af t.q.nf cf, .slice Ao t.no co, .slice Ap t.np cp, .slice As t.ns cs, .int .i64 t.far, .int .i64 t.harm, .int .i64 t.many] 29)).alloc (.cells #[.int .i64 n] 3)).heap.size 98 #[.pointer none])]
      (by kernel_rfl) (by kernel_rfl) rfl ⟨trivial, trivial, trivial, trivial, trivial, trivial, trivial, trivial, boxG, trivial⟩ (crossAll_no _ _ _ _ trivial) rfl rfl rfl (fun _ => ⟨_, _, _, _, rfl, rfl, rfl, rfl⟩) ?_
    iterate 3 refine wpStir_const (by go_simp) ?_
    refine wpStir_call rfl (fun w' hb hd => ?_) ?_
    · clear hd
      go_simp
      exact HC1.out w'
    refine wpStir_call rfl (fun w' hb hd => ?_) ?_
    · clear hd
      go_simp
      refine (HCO.out w' hb).mono ?_
      rintro e w'' ⟨ho, hb'⟩
      exact ⟨ho.1 HNZ.out, hb'⟩
    iterate 3 refine wpStir_const (by go_simp) ?_
    simp only [Act.put, List.setIfInBounds_toArray, List.set_cons_succ, List.set_cons_zero]
    refine wpStir_held rfl (fun w' hb hd => ?_) (fun v hv => ?_)
    · clear hd
      have hz := hb.size
      go_simp
      refine ⟨bAlloc (Below.refl _ _) _, ⟨_, rfl⟩, fun b e => ?_⟩
      obtain rfl : w'.heap.size = b := by simpa using e
      exact ⟨by simpa using hz, TBox.new _ _ _⟩
    obtain ⟨bx, rfl⟩ := hv
    refine wpStir_end (fun w55 hb5 hd => ?_)
    obtain ⟨hbx, htb⟩ := hd.1 _ rfl
    clear hd
    have hx0 : w55.cell? ⟨bx, 0, none⟩ = some (.pointer none) := htb.cell 0
    have hf0 := htb.frozen 0
    have hxl := htb.lt
    simp only [Act.put, List.setIfInBounds_toArray, List.set_cons_succ, List.set_cons_zero, List.drop_succ_cons, List.drop_zero]
    refine ⟨w55.setCell ⟨bx, 0, none⟩ (.pointer none), by go_simp, ?_⟩
    have htb2 := htb.set 0 (.pointer none)
    have hb : Below ((w.alloc (.cells #[.int .i64 t.q.wells, .slice Aw t.q.nw cw, .slice Af t.q.nf cf, .slice Ao t.no co, .slice Ap t.np cp, .slice As t.ns cs, .int .i64 t.far, .int .i64 t.harm, .int .i64 t.many] 29)).alloc (.cells #[.int .i64 n] 3)).heap.size ((w.alloc (.cells #[.int .i64 t.q.wells, .slice Aw t.q.nw cw, .slice Af t.q.nf cf, .slice Ao t.no co, .slice Ap t.np cp, .slice As t.ns cs, .int .i64 t.far, .int .i64 t.harm, .int .i64 t.many] 29)).alloc (.cells #[.int .i64 n] 3)) (w55.setCell ⟨bx, 0, none⟩ (.pointer none)) := Below.setCell (p := ⟨bx, 0, none⟩) hb5 hbx (.pointer none)
    generalize w55.setCell ⟨bx, 0, none⟩ (.pointer none) = w1 at htb2 hb ⊢
    have hB1 : Below w.heap.size w w1 := bTrans (bAlloc (bAlloc (Below.refl _ _) (.cells #[.int .i64 t.q.wells, .slice Aw t.q.nw cw, .slice Af t.q.nf cf, .slice Ao t.no co, .slice Ap t.np cp, .slice As t.ns cs, .int .i64 t.far, .int .i64 t.harm, .int .i64 t.many] 29)) (.cells #[.int .i64 n] 3)) hb
    have HD1 := Lib.hid (bTrans HD0.out hB1)
    have HT1 := Lib.hid (HT0.out.mono hB1)
    have HTB1 := Lib.hid (HTB0.out.mono hB1)
    have S1 := Lib.hid ((show TBox w1 bx 98 #[.pointer none] from htb2))
    have T1 := Lib.hid (show TBox w1 w.heap.size 29 #[.int .i64 t.q.wells, .slice Aw t.q.nw cw, .slice Af t.q.nf cf, .slice Ao t.no co, .slice Ap t.np cp, .slice As t.ns cs, .int .i64 t.far, .int .i64 t.harm, .int .i64 t.many] from by have := ((TBox.new w #[.int .i64 t.q.wells, .slice Aw t.q.nw cw, .slice Af t.q.nf cf, .slice Ao t.no co, .slice Ap t.np cp, .slice As t.ns cs, .int .i64 t.far, .int .i64 t.harm, .int .i64 t.many] 29).mono (bAlloc (Below.refl _ _) (.cells #[.int .i64 n] 3))).mono hb; simpa using this)
    have I1 := Lib.hid (show TBox w1 (w.heap.size + 1) 3 #[.int .i64 n] from by have := ((TBox.new (w.alloc (.cells #[.int .i64 t.q.wells, .slice Aw t.q.nw cw, .slice Af t.q.nf cf, .slice Ao t.no co, .slice Ap t.np cp, .slice As t.ns cs, .int .i64 t.far, .int .i64 t.harm, .int .i64 t.many] 29)) #[.int .i64 n] 3).mono (Below.refl _ _)).mono hb; simpa using this)
    clear hb hB1 HD0 HT0 HTB0
    obtain ⟨T_0, T_1, T_2, T_3, T_4, T_5, T_6, T_7, T_8, T_l⟩ := T1.out.c9
    obtain ⟨I_0, I_l⟩ := I1.out.c1
    clear htb htb2 hx0 hf0 hxl hb5 hbx
    obtain ⟨S_0, S_l⟩ := S1.out.c1
    go_wp2_with fail
    go_ret2
    exact ⟨⟨fun h => absurd (HR.out.symm.trans h) HNZ.out, fun _ => by rw [HR.out]; rfl⟩, HD1.out⟩
  subst he
  have HEZ := Lib.hid (HE.out.trans (if_pos rfl))
  obtain ⟨ok, rfl, hne⟩ := Pt.knowErr_zero HER.out
  have HOK := Lib.hid ok
  have hn := hasB_iff.1 HBB.out
  obtain ⟨i, rfl⟩ : ∃ i : Nat, n = (i : Int) := ⟨n.toNat, by omega⟩
  have HI := Lib.hid (show i < t.ns by omega)
  rw [Int.toNat_natCast] at HEZ
  clear ok hn hne
  go_wp2_with fail
  have HCO := Lib.hid (fun (w' : World) (hb : Below ((w.alloc (.cells #[.int .i64 t.q.wells, .slice Aw t.q.nw cw, .slice Af t.q.nf cf, .slice Ao t.no co, .slice Ap t.np cp, .slice As t.ns cs, .int .i64 t.far, .int .i64 t.harm, .int .i64 t.many] 29)).alloc (.cells #[.int .i64 (i : Int)] 3)).heap.size ((w.alloc (.cells #[.int .i64 t.q.wells, .slice Aw t.q.nw cw, .slice Af t.q.nf cf, .slice Ao t.no co, .slice Ap t.np cp, .slice As t.ns cs, .int .i64 t.far, .int .i64 t.harm, .int .i64 t.many] 29)).alloc (.cells #[.int .i64 (i : Int)] 3)) w') => ((openP_any Aw Af Ao Ap As cw cf co cp cs t true w' HSM.out ((HT0.out.mono (bAlloc (bAlloc (Below.refl _ _) (.cells #[.int .i64 t.q.wells, .slice Aw t.q.nw cw, .slice Af t.q.nf cf, .slice Ao t.no co, .slice Ap t.np cp, .slice As t.ns cs, .int .i64 t.far, .int .i64 t.harm, .int .i64 t.many] 29)) (.cells #[.int .i64 (i : Int)] 3))).mono hb) ((HTB0.out.mono (bAlloc (bAlloc (Below.refl _ _) (.cells #[.int .i64 t.q.wells, .slice Aw t.q.nw cw, .slice Af t.q.nf cf, .slice Ao t.no co, .slice Ap t.np cp, .slice As t.ns cs, .int .i64 t.far, .int .i64 t.harm, .int .i64 t.many] 29)) (.cells #[.int .i64 (i : Int)] 3))).mono hb)).mono fun e w'' h => ⟨(HER.out ▸ h.1 : StrOut w'' w'.heap.size Aw Af Ao Ap As cw cf co cp cs t 0 e), h.2⟩ : Calls Tryz.prog 94 #[.agg #[.int .i64 t.q.wells, .slice Aw t.q.nw cw, .slice Af t.q.nf cf, .slice Ao t.no co, .slice Ap t.np cp, .slice As t.ns cs, .int .i64 t.far, .int .i64 t.harm, .int .i64 t.many], .bool true] w' fun e w'' => StrOut w'' w'.heap.size Aw Af Ao Ap As cw cf co cp cs t 0 e ∧ Below w'.heap.size w' w''))
  refine wp_region_late 9 7 [.const (.agg #[.int .i64 t.q.wells, .slice Aw t.q.nw cw, .slice Af t.q.nf cf, .slice Ao t.no co, .slice Ap t.np cp, .slice As t.ns cs, .int .i64 t.far, .int .i64 t.harm, .int .i64 t.many]), .const (.agg #[.int .i64 t.q.wells, .slice Aw t.q.nw cw, .slice Af t.q.nf cf, .slice Ao t.no co, .slice Ap t.np cp, .slice As t.ns cs, .int .i64 t.far, .int .i64 t.harm, .int .i64 t.many]), .const (.int .i64 (i : Int)), .const (.bool true), .held strS (strR Aw Af Ao Ap As cw cf co cp cs t), .held strS (strR Aw Af Ao Ap As cw cf co cp cs t), .held stpS (stpR Aw Af Ao Ap As cw cf co cp cs t), .const (.int .i64 0), .held boxS (boxR ((w.alloc (.cells #[.int .i64 t.q.wells, .slice Aw t.q.nw cw, .slice Af t.q.nf cf, .slice Ao t.no co, .slice Ap t.np cp, .slice As t.ns cs, .int .i64 t.far, .int .i64 t.harm, .int .i64 t.many] 29)).alloc (.cells #[.int .i64 (i : Int)] 3)).heap.size 98 #[.pointer none])]
    (by kernel_rfl) (by kernel_rfl) rfl ⟨trivial, trivial, trivial, trivial, strG, strG, stpG, trivial, boxG, trivial⟩ (crossAll_no _ _ _ _ trivial) rfl rfl rfl (fun _ => ⟨_, _, _, _, rfl, rfl, rfl, rfl⟩) ?_
  iterate 3 refine wpStir_const (by go_simp) ?_
  refine wpStir_call rfl (fun w' hb hd => ?_) ?_
  · clear hd
    go_simp
    exact HC1.out w'
  refine wpStir_held rfl (fun w' hb hd => ?_) (fun v hv => ?_)
  · clear hd
    go_simp
    refine (HCO.out w' hb).mono ?_
    rintro e w'' ⟨ho, hb'⟩
    obtain ⟨C, Al, cl, rfl, hst, _⟩ := ho.2 rfl
    refine ⟨_, rfl, hb', ⟨_, rfl⟩, fun C' e => ?_⟩
    obtain rfl : C = C' := by simpa using e
    exact ⟨Al, cl, hst⟩
  obtain ⟨C0, rfl⟩ := hv
  refine wpStir_held rfl (fun w' hb hd => ?_) (fun v hv => ?_)
  · have hs0 : strR Aw Af Ao Ap As cw cf co cp cs t w' _ := hd.1 (by kernel_rfl)
    clear hd
    go_simp
    first | exact ⟨⟨_, rfl⟩, hs0⟩ | exact ⟨_, rfl⟩
  obtain ⟨C1, rfl⟩ := hv
  refine wpStir_held rfl (fun w' hb hd => ?_) (fun v hv => ?_)
  · have hs0 := (show strR Aw Af Ao Ap As cw cf co cp cs t w' (.tuple #[.pointer (some ⟨C1, 0, none⟩), .int .i64 0]) from hd.1 (by kernel_rfl)) C1 rfl
    clear hd
    go_simp
    refine ⟨⟨_, rfl⟩, fun C' e => ?_⟩
    obtain rfl : C1 = C' := by simpa using e
    exact hs0
  obtain ⟨C, rfl⟩ := hv
  refine wpStir_const (by go_simp) ?_
  simp only [Act.put, List.setIfInBounds_toArray, List.set_cons_succ, List.set_cons_zero]
  refine wpStir_held rfl (fun w' hb hd => ?_) (fun v hv => ?_)
  · clear hd
    have hz := hb.size
    go_simp
    refine ⟨bAlloc (Below.refl _ _) _, ⟨_, rfl⟩, fun b e => ?_⟩
    obtain rfl : w'.heap.size = b := by simpa using e
    exact ⟨by simpa using hz, TBox.new _ _ _⟩
  obtain ⟨bx, rfl⟩ := hv
  refine wpStir_end (fun w55 hb5 hd => ?_)
  obtain ⟨hbx, htb⟩ := hd.1 _ rfl
  obtain ⟨Al, cl, hst⟩ := (show stpR Aw Af Ao Ap As cw cf co cp cs t w55 (.pointer (some ⟨C, 0, none⟩)) from hd.2.1) C rfl
  clear hd
  have hx0 : w55.cell? ⟨bx, 0, none⟩ = some (.pointer none) := htb.cell 0
  have hf0 := htb.frozen 0
  have hxl := htb.lt
  simp only [Act.put, List.setIfInBounds_toArray, List.set_cons_succ, List.set_cons_zero, List.drop_succ_cons, List.drop_zero]
  refine ⟨w55.setCell ⟨bx, 0, none⟩ (.pointer (some ⟨C, 0, none⟩)), by go_simp, ?_⟩
  have htb2 := htb.set 0 (.pointer (some ⟨C, 0, none⟩))
  have hb : Below ((w.alloc (.cells #[.int .i64 t.q.wells, .slice Aw t.q.nw cw, .slice Af t.q.nf cf, .slice Ao t.no co, .slice Ap t.np cp, .slice As t.ns cs, .int .i64 t.far, .int .i64 t.harm, .int .i64 t.many] 29)).alloc (.cells #[.int .i64 (i : Int)] 3)).heap.size ((w.alloc (.cells #[.int .i64 t.q.wells, .slice Aw t.q.nw cw, .slice Af t.q.nf cf, .slice Ao t.no co, .slice Ap t.np cp, .slice As t.ns cs, .int .i64 t.far, .int .i64 t.harm, .int .i64 t.many] 29)).alloc (.cells #[.int .i64 (i : Int)] 3)) (w55.setCell ⟨bx, 0, none⟩ (.pointer (some ⟨C, 0, none⟩))) := Below.setCell (p := ⟨bx, 0, none⟩) hb5 hbx (.pointer (some ⟨C, 0, none⟩))
  have hst2 := hst.setNew htb (.pointer (some ⟨C, 0, none⟩)) ((HT0.out.mono (bAlloc (bAlloc (Below.refl _ _) (.cells #[.int .i64 t.q.wells, .slice Aw t.q.nw cw, .slice Af t.q.nf cf, .slice Ao t.no co, .slice Ap t.np cp, .slice As t.ns cs, .int .i64 t.far, .int .i64 t.harm, .int .i64 t.many] 29)) (.cells #[.int .i64 (i : Int)] 3))).mono hb)
  generalize w55.setCell ⟨bx, 0, none⟩ (.pointer (some ⟨C, 0, none⟩)) = w1 at htb2 hb hst2 ⊢
  have hB1 : Below w.heap.size w w1 := bTrans (bAlloc (bAlloc (Below.refl _ _) (.cells #[.int .i64 t.q.wells, .slice Aw t.q.nw cw, .slice Af t.q.nf cf, .slice Ao t.no co, .slice Ap t.np cp, .slice As t.ns cs, .int .i64 t.far, .int .i64 t.harm, .int .i64 t.many] 29)) (.cells #[.int .i64 (i : Int)] 3)) hb
  have HD1 := Lib.hid (bTrans HD0.out hB1)
  have HT1 := Lib.hid (HT0.out.mono hB1)
  have HTB1 := Lib.hid (HTB0.out.mono hB1)
  have S1 := Lib.hid ((show TBox w1 bx 98 #[.pointer (some ⟨C, 0, none⟩)] from htb2))
  have HST1 := Lib.hid (hst2)
  have T1 := Lib.hid (show TBox w1 w.heap.size 29 #[.int .i64 t.q.wells, .slice Aw t.q.nw cw, .slice Af t.q.nf cf, .slice Ao t.no co, .slice Ap t.np cp, .slice As t.ns cs, .int .i64 t.far, .int .i64 t.harm, .int .i64 t.many] from by have := ((TBox.new w #[.int .i64 t.q.wells, .slice Aw t.q.nw cw, .slice Af t.q.nf cf, .slice Ao t.no co, .slice Ap t.np cp, .slice As t.ns cs, .int .i64 t.far, .int .i64 t.harm, .int .i64 t.many] 29).mono (bAlloc (Below.refl _ _) (.cells #[.int .i64 (i : Int)] 3))).mono hb; simpa using this)
  have I1 := Lib.hid (show TBox w1 (w.heap.size + 1) 3 #[.int .i64 (i : Int)] from by have := ((TBox.new (w.alloc (.cells #[.int .i64 t.q.wells, .slice Aw t.q.nw cw, .slice Af t.q.nf cf, .slice Ao t.no co, .slice Ap t.np cp, .slice As t.ns cs, .int .i64 t.far, .int .i64 t.harm, .int .i64 t.many] 29)) #[.int .i64 (i : Int)] 3).mono (Below.refl _ _)).mono hb; simpa using this)
  clear hb hB1 HD0 HT0 HTB0
  obtain ⟨T_0, T_1, T_2, T_3, T_4, T_5, T_6, T_7, T_8, T_l⟩ := T1.out.c9
  obtain ⟨I_0, I_l⟩ := I1.out.c1
  clear htb htb2 hx0 hf0 hxl hb5 hbx
  obtain ⟨S_0, S_l⟩ := S1.out.c1
  go_wp2_with fail
  have HMW := Lib.hid (Pt.m_wells HOK.out)
  have hm4 : t.m ≤ 4 := by have := HOK.out.q.w1; have := HMW.out; omega
  clear T_0 T_1 T_2 T_3 T_4 T_5 T_6 T_7 T_8 T_l I_0 I_l S_0 S_l
  go_loopw [8, 29] (fun s8 s29 wr => ∃ k : Nat, k ≤ t.m ∧ s29 = .int .i64 (k : Int) ∧ OwnE tstE wr w1.heap.size s8 (testsTo t.m k 0) ∧ Below w1.heap.size w1 wr) (fun _ s29 _ => t.m - (intOf s29).toNat)
  case atStart => exact ⟨0, Nat.zero_le _, rfl, OwnE.nil _ _ _, Below.refl _ _⟩
  case round =>
    obtain ⟨k, hk_k, rfl, hown, hb⟩ := hrel
    have HBk := Lib.hid hb
    have HOWN := Lib.hid hown
    clear hown
    have hB2 : Below w1.heap.size w1 wr := bTrans (Below.refl _ _) hb
    have HD2 := Lib.hid (bTrans HD1.out hB2)
    have HT2 := Lib.hid (HT1.out.mono hB2)
    have HTB2 := Lib.hid (HTB1.out.mono hB2)
    have HST2 := Lib.hid (HST1.out.mono hB2)
    have HU_k2 := Lib.hid ((show Upto w1 wr from HBk.out))
    have T2 := Lib.hid (T1.out.mono hB2)
    have I2 := Lib.hid (I1.out.mono hB2)
    have S2 := Lib.hid (S1.out.mono hB2)
    clear hb hB2
    obtain ⟨T_0, T_1, T_2, T_3, T_4, T_5, T_6, T_7, T_8, T_l⟩ := T2.out.c9
    obtain ⟨I_0, I_l⟩ := I2.out.c1
    obtain ⟨S_0, S_l⟩ := S2.out.c1
    by_cases hlt_k : k < t.m
    case pos =>
      have h1_k : (k : Int) < (t.m : Int) := by omega
      have h0_k : (0 : Int) ≤ (k : Int) := by omega
      have hb_k : k < 100 := by omega
      have hkw : (k : Int) < t.q.wells := by have := HMW.out; omega
      go_wp2_with fail
      clear T_0 T_1 T_2 T_3 T_4 T_5 T_6 T_7 T_8 T_l I_0 I_l S_0 S_l
      go_loopw [8, 35] (fun s8 s35 wx => ∃ j : Nat, j ≤ t.m ∧ s35 = .int .i64 (j : Int) ∧ OwnE tstE wx w1.heap.size s8 (testsTo t.m k j) ∧ Below w1.heap.size w1 wx) (fun _ s35 _ => t.m - (intOf s35).toNat)
      case atStart => exact ⟨0, Nat.zero_le _, rfl, HOWN.out, HU_k2.out⟩
      case round =>
        obtain ⟨j, hj, rfl, hown2, hbel2⟩ := hrel
        have HO2 := Lib.hid hown2
        have HL2 := Lib.hid hbel2
        have hz2 := hbel2.size
        clear hown2 hbel2
        by_cases hjm : j < t.m
        case pos =>
          have j1 : (j : Int) < t.q.wells := by have := HMW.out; omega
          have HLE := Lib.hid (show (testsTo t.m k j).length ≤ 100000 by rw [testsTo_len]; have : k * t.m ≤ 4 * 4 := Nat.mul_le_mul (by omega) hm4; omega)
          go_wp2_with (at_builtin; refine wpList_snocE tstG _ rfl (Operand.tmp 38) (Operand.tmp 42) rfl w1.heap.size _ (testsTo t.m k j) (k, j) rfl ?q1 wr.heap.size rfl ?q2 HLE.out ?q4 ?_)
          case q1 => exact HO2.out.mono (bAlloc (Below.refl _ _) _)
          case q2 =>
            intro a u hu
            match a, hu with
            | 0, hu =>
              obtain rfl : Value.int .i64 k = u := by simpa [tstE] using hu
              simp [go_sem]
            | 1, hu =>
              obtain rfl : Value.int .i64 j = u := by simpa [tstE] using hu
              simp [go_sem]
          case q4 => simp; omega
          intro v' w57 hown5 hb57 _ _
          have HO5 := Lib.hid ((testsTo_snoc t.m k j) ▸ hown5)
          have HL5 := Lib.hid (hb57 (w1.heap.size) w1 (Nat.le_refl _) (HL2.out.trans ((bAlloc (Below.refl wr.heap.size wr) _).mono hz2)))
          clear hown5 hb57
          go_wp2_with fail
          go_roundw
          case rel =>
            first
            | exact ⟨j + 1, by omega, by go_num, HO5.out, HL5.out⟩
            | ((repeat apply Exists.intro)
               refine ⟨⟨j + 1, by omega, ?_, HO5.out, HL5.out⟩, rfl⟩
               go_num)
          case measure => simp [intOf]; omega
        have hje : j = t.m := by omega
        have HO5 := Lib.hid (show OwnE tstE wr w1.heap.size _ (testsTo t.m (k + 1) 0) from testsTo_row t.m k ▸ hje ▸ HO2.out)
        have j1 : ¬ (j : Int) < t.q.wells := by have := HMW.out; omega
        clear hje
        go_wp2_with fail
        go_roundw
        case rel =>
          first
          | exact ⟨k + 1, by omega, by go_num, HO5.out, HL2.out⟩
          | ((repeat apply Exists.intro)
             refine ⟨⟨k + 1, by omega, ?_, HO5.out, HL2.out⟩, rfl⟩
             go_num)
        case measure => simp [intOf]; omega
    have he_k : k = t.m := by omega
    have hk1 : ¬ (k : Int) < t.q.wells := by have := HMW.out; omega
    have hts : OwnE tstE wr w1.heap.size _ t.q.tests := (show testsTo t.m t.m 0 = t.q.tests from testsTo_all t.m) ▸ (he_k ▸ HOWN.out)
    obtain ⟨A5, c5, e5, hr5, hc5, hm5⟩ := own_cap hts
    have hz16 := tests_len HOK.out.q
    obtain ⟨z, hz⟩ : ∃ z, t.q.tests.length = z := ⟨_, rfl⟩
    rw [hz] at e5 hc5 hz16
    subst e5
    have HZ := Lib.hid hz
    have HRW2 := Lib.hid hr5
    have HC5 := Lib.hid hc5
    have HM5 := Lib.hid hm5
    clear hr5 hts hz HOWN hc5 hm5 he_k
    obtain ⟨bz, hbz⟩ : ∃ b, t.decB i t.q.tests = b := ⟨_, rfl⟩
    have HBZ := Lib.hid hbz
    clear hbz
    go_wp2_with fail
    refine ((by have := decideP_any C Aw Af Ao Ap As cw cf co cp cs t Al cl i A5 c5 t.q.tests wr HST2.out HOK.out HI.out (tests_ok5 HOK.out.q) HRW2.out (by rw [HZ.out]; omega); rw [HBZ.out, HZ.out] at this; exact this : Calls Tryz.prog 111 #[.pointer (some ⟨C, 0, none⟩), .int .i64 (i : Int), .slice A5 z c5] wr fun e w' => e = .returned (.bool bz) ∧ Below wr.heap.size wr w')).mono ?_
    rintro e w3 ⟨rfl, hb⟩
    have hB3 : Below wr.heap.size wr w3 := bTrans (Below.refl _ _) hb
    have HD3 := Lib.hid (bTrans HD2.out hB3)
    have HT3 := Lib.hid (HT2.out.mono hB3)
    have HTB3 := Lib.hid (HTB2.out.mono hB3)
    have HST3 := Lib.hid (HST2.out.mono hB3)
    have HU_k3 := Lib.hid (HU_k2.out.mono hB3)
    have HRW3 := Lib.hid (HRW2.out.mono hB3)
    have T3 := Lib.hid (T2.out.mono hB3)
    have I3 := Lib.hid (I2.out.mono hB3)
    have S3 := Lib.hid (S2.out.mono hB3)
    clear hb hB3 HD2 HT2 HTB2 HST2 HU_k2 HRW2 T2 T_0 T_1 T_2 T_3 T_4 T_5 T_6 T_7 T_8 T_l I2 I_0 I_l S2 S_0 S_l
    obtain ⟨T_0, T_1, T_2, T_3, T_4, T_5, T_6, T_7, T_8, T_l⟩ := T3.out.c9
    obtain ⟨I_0, I_l⟩ := I3.out.c1
    obtain ⟨S_0, S_l⟩ := S3.out.c1
    cases bz
    case false =>
      have HR := Lib.hid (show t.decErr (i : Int) = 3 by rw [HEZ.out, HBZ.out]; rfl)
      go_wp2_with fail
      go_ret2
      exact ⟨⟨fun h => absurd (HR.out.symm.trans h) (by decide), fun _ => by rw [HR.out]; rfl⟩, HD3.out⟩
    have HR := Lib.hid (show t.decErr (i : Int) = 0 by rw [HEZ.out, HBZ.out]; rfl)
    obtain ⟨p, hp⟩ : ∃ p : List Tp → Bool, p = fun x => t.decB i x := ⟨_, rfl⟩
    have HP := Lib.hid hp
    have HDL := Lib.hid (show t.decL (i : Int) = fewestL t.q.tests p by unfold Pt.decL; rw [hp, Int.toNat_natCast])
    clear hp
    go_wp2_with fail
    obtain ⟨wl289, hwl⟩ : ∃ y, y = wr := ⟨_, rfl⟩
    subst hwl
    clear T_0 T_1 T_2 T_3 T_4 T_5 T_6 T_7 T_8 T_l I_0 I_l S_0 S_l
    go_loopw [54] (fun s54 wr => ∃ h : Nat, h ≤ z ∧ s54 = .int .i64 (h : Int) ∧ firstUpTo t.q.tests p 0 h = none ∧ Below (w3.alloc (.cells #[.func (.func 112) #[] #[.pointer (some ⟨bx, 0, none⟩), .pointer (some ⟨(w.heap.size + 1), 0, none⟩), .pointer (some ⟨w3.heap.size, 0, none⟩)]] 120)).heap.size (w3.alloc (.cells #[.func (.func 112) #[] #[.pointer (some ⟨bx, 0, none⟩), .pointer (some ⟨(w.heap.size + 1), 0, none⟩), .pointer (some ⟨w3.heap.size, 0, none⟩)]] 120)) wr) (fun s54 _ => z - (intOf s54).toNat)
    case atStart => exact ⟨0, Nat.zero_le _, rfl, rfl, Below.refl _ _⟩
    case round =>
      obtain ⟨h, hk_h, rfl, hno, hb⟩ := hrel
      have HBh := Lib.hid hb
      have HNO := Lib.hid hno
      clear hno
      have hB4 : Below w3.heap.size w3 wr := bTrans (bAlloc (Below.refl _ _) (.cells #[.func (.func 112) #[] #[.pointer (some ⟨bx, 0, none⟩), .pointer (some ⟨(w.heap.size + 1), 0, none⟩), .pointer (some ⟨w3.heap.size, 0, none⟩)]] 120)) hb
      have HD4 := Lib.hid (bTrans HD3.out hB4)
      have HT4 := Lib.hid (HT3.out.mono hB4)
      have HTB4 := Lib.hid (HTB3.out.mono hB4)
      have HST4 := Lib.hid (HST3.out.mono hB4)
      have HU_k4 := Lib.hid (HU_k3.out.mono hB4)
      have HRW4 := Lib.hid (HRW3.out.mono hB4)
      have HU_h4 := Lib.hid ((show Upto (w3.alloc (.cells #[.func (.func 112) #[] #[.pointer (some ⟨bx, 0, none⟩), .pointer (some ⟨(w.heap.size + 1), 0, none⟩), .pointer (some ⟨w3.heap.size, 0, none⟩)]] 120)) wr from HBh.out))
      have T4 := Lib.hid (T3.out.mono hB4)
      have I4 := Lib.hid (I3.out.mono hB4)
      have S4 := Lib.hid (S3.out.mono hB4)
      have F4 := Lib.hid (show TBox wr w3.heap.size 120 #[.func (.func 112) #[] #[.pointer (some ⟨bx, 0, none⟩), .pointer (some ⟨(w.heap.size + 1), 0, none⟩), .pointer (some ⟨w3.heap.size, 0, none⟩)]] from by have := ((TBox.new w3 #[.func (.func 112) #[] #[.pointer (some ⟨bx, 0, none⟩), .pointer (some ⟨(w.heap.size + 1), 0, none⟩), .pointer (some ⟨w3.heap.size, 0, none⟩)]] 120).mono (Below.refl _ _)).mono hb; simpa using this)
      clear hb hB4
      obtain ⟨T_0, T_1, T_2, T_3, T_4, T_5, T_6, T_7, T_8, T_l⟩ := T4.out.c9
      obtain ⟨I_0, I_l⟩ := I4.out.c1
      obtain ⟨S_0, S_l⟩ := S4.out.c1
      obtain ⟨F_0, F_l⟩ := F4.out.c1
      by_cases hlt_h : h < z
      case pos =>
        have h1_h : (h : Int) < (z : Int) := by omega
        have h0_h : (0 : Int) ≤ (h : Int) := by omega
        have hb_h : h < 100 := by omega
        obtain ⟨r, hr⟩ : ∃ r, (listsL t.q.tests h).find? p = r := ⟨_, rfl⟩
        have HRR := Lib.hid hr
        clear hr
        have HFC := Lib.hid (show Calls Tryz.prog 112 #[.slice none 0 0, .slice A5 z c5, .int .i64 (h : Int), .pointer (some ⟨bx, 0, none⟩), .pointer (some ⟨(w.heap.size + 1), 0, none⟩), .pointer (some ⟨w3.heap.size, 0, none⟩)] wr fun e w' => FindOut9 w' r [] e ∧ Below wr.heap.size wr w' from by
          have hf := find9_any (C := C) (Al := Al) (cl := cl) (bs := bx) (bp := (w.heap.size + 1)) (bf := w3.heap.size) HOK.out HI.out h [] none 0 t.q.tests A5 c5 wr ⟨HST4.out, BoxAt.one S4.out.lt (S4.out.cell 0), BoxAt.one I4.out.lt (I4.out.cell 0), BoxAt.one F4.out.lt (F4.out.cell 0)⟩ (.inl ⟨rfl, rfl, rfl⟩) (fun x hx => by cases hx) (by simp; omega) HRW4.out (by rw [HZ.out]; exact HC5.out) HM5.out (tests_ok5 HOK.out.q) (by rw [HZ.out]; omega)
          rw [HZ.out] at hf
          rw [← HRR.out, HP.out]
          exact hf)
        go_wp2_with fail
        refine (HFC.out).mono ?_
        rintro e w5 ⟨⟨ho1, ho2⟩, hb⟩
        have hB5 : Below wr.heap.size wr w5 := bTrans (Below.refl _ _) hb
        have HD5 := Lib.hid (bTrans HD4.out hB5)
        have HT5 := Lib.hid (HT4.out.mono hB5)
        have HTB5 := Lib.hid (HTB4.out.mono hB5)
        have HST5 := Lib.hid (HST4.out.mono hB5)
        have HU_k5 := Lib.hid (HU_k4.out.mono hB5)
        have HRW5 := Lib.hid (HRW4.out.mono hB5)
        have HU_h5 := Lib.hid (HU_h4.out.mono hB5)
        have T5 := Lib.hid (T4.out.mono hB5)
        have I5 := Lib.hid (I4.out.mono hB5)
        have S5 := Lib.hid (S4.out.mono hB5)
        have F5 := Lib.hid (F4.out.mono hB5)
        clear hb hB5 HD4 HT4 HTB4 HST4 HU_k4 HRW4 HU_h4 T4 T_0 T_1 T_2 T_3 T_4 T_5 T_6 T_7 T_8 T_l I4 I_0 I_l S4 S_0 S_l F4 F_0 F_l
        obtain ⟨T_0, T_1, T_2, T_3, T_4, T_5, T_6, T_7, T_8, T_l⟩ := T5.out.c9
        obtain ⟨I_0, I_l⟩ := I5.out.c1
        obtain ⟨S_0, S_l⟩ := S5.out.c1
        obtain ⟨F_0, F_l⟩ := F5.out.c1
        cases r with
        | none =>
          obtain ⟨v7, rfl⟩ := ho2 rfl
          have HF2 := Lib.hid (firstUpTo_none HNO.out HRR.out)
          clear ho1 ho2
          go_wp2_with fail
          go_roundw
          case rel =>
            first
            | exact ⟨h + 1, by omega, by go_num, HF2.out, HU_h5.out⟩
            | ((repeat apply Exists.intro)
               refine ⟨⟨h + 1, by omega, ?_, HF2.out, HU_h5.out⟩, rfl⟩
               go_num)
          case measure => simp [intOf]; omega
        | some x =>
          obtain ⟨A7, c7, rfl, hl2⟩ := ho1 x rfl
          have HL2 := Lib.hid (show LstAt w5 A7 c7 x from hl2)
          have HFF := Lib.hid (show t.decL (i : Int) = x by rw [HDL.out]; exact first_found HNO.out HRR.out (by rw [HZ.out]; omega))
          obtain ⟨m2, hm2⟩ : ∃ m2, ([] ++ x).length = m2 := ⟨_, rfl⟩
          have HM2 := Lib.hid hm2
          rw [hm2]
          clear ho1 ho2 hl2 hm2
          go_wp2_with fail
          go_ret2
          exact ⟨⟨fun _ => ⟨A7, c7, by rw [HR.out, HFF.out, show x.length = m2 from HM2.out]; rfl, by rw [HFF.out]; exact HL2.out.row⟩, fun hx => absurd HR.out hx⟩, HD5.out⟩
      have he_h : h = z := by omega
      have hk9 : ¬ (h : Int) < (z : Int) := by omega
      have hk8 : ¬ h < z := by omega
      have HFF := Lib.hid (show t.decL (i : Int) = t.q.tests by rw [HDL.out]; unfold fewestL; rw [HZ.out, ← he_h, HNO.out]; rfl)
      clear he_h
      go_wp2_with fail
      go_ret2
      exact ⟨⟨fun _ => ⟨A5, c5, by rw [HR.out, HFF.out, HZ.out]; rfl, by rw [HFF.out]; exact HRW4.out⟩, fun hx => absurd HR.out hx⟩, HD4.out⟩
end Go.Proofs.YtjpfdhhiofjpbaaGreatDoor

namespace Go.Proofs.YtjpfdhhiofjpbaaGreatDoor
open Go.RowKit Go.Sort
set_option maxHeartbeats 16000000 in
set_option maxRecDepth 100000 in
theorem decideR9_any (Aw Af Ao Ap As : Option Addr) (cw cf co cp cs : Nat) (t : Pt) (n : Int) (w : World) (hs : t.Small) (hT : PAt w Aw Af Ao Ap As t) :
    Calls Tryz.prog 60 #[.agg #[.int .i64 t.q.wells, .slice Aw t.q.nw cw, .slice Af t.q.nf cf, .slice Ao t.no co, .slice Ap t.np cp, .slice As t.ns cs, .int .i64 t.far, .int .i64 t.harm, .int .i64 t.many], .int .i64 n] w fun e w' => RefLst w' (t.decErr n) (t.decL n) e ∧ Below w.heap.size w w' := by
  obtain ⟨bb, hbb⟩ : ∃ b, t.hasB n = b := ⟨_, rfl⟩
  obtain ⟨er, her⟩ : ∃ v, t.knowErr bb = v := ⟨_, rfl⟩
  have HC1 := Lib.hid (fun w => hbb ▸ isSpotN9_any Aw Af Ao Ap As cw cf co cp cs t n w hs.ns : ∀ w : World, Calls Tryz.prog 40 #[.agg #[.int .i64 t.q.wells, .slice Aw t.q.nw cw, .slice Af t.q.nf cf, .slice Ao t.no co, .slice Ap t.np cp, .slice As t.ns cs, .int .i64 t.far, .int .i64 t.harm, .int .i64 t.many], .int .i64 n] w fun e w' => e = .returned (.bool bb) ∧ Below w.heap.size w w')
  have HE := Lib.hid (show t.decErr n = if er = 0 then (if t.decB n.toNat t.q.tests then 0 else 3) else er by unfold Pt.decErr; rw [hbb, her])
  have HER := Lib.hid her
  have HBB := Lib.hid hbb
  clear hbb her
  have HD0 := Lib.hid (Below.refl w.heap.size w)
  have HSM := Lib.hid hs
  have HT0 := Lib.hid hT
  clear hs hT
  go_enter Tryz.func60, Tryz.ntmps60
  by_cases he : er = 0
  case neg =>
    have g0 : (er != 0) = true := by simp [he]
    have HNZ := Lib.hid he
    have HR := Lib.hid (HE.out.trans (if_neg he))
    clear he
    go_wp2_with fail
    have HCO := Lib.hid (fun (w' : World) (hb : Below (w.alloc (.cells #[.int .i64 t.q.wells, .slice Aw t.q.nw cw, .slice Af t.q.nf cf, .slice Ao t.no co, .slice Ap t.np cp, .slice As t.ns cs, .int .i64 t.far, .int .i64 t.harm, .int .i64 t.many] 29)).heap.size (w.alloc (.cells #[.int .i64 t.q.wells, .slice Aw t.q.nw cw, .slice Af t.q.nf cf, .slice Ao t.no co, .slice Ap t.np cp, .slice As t.ns cs, .int .i64 t.far, .int .i64 t.harm, .int .i64 t.many] 29)) w') => ((known9_any Aw Af Ao Ap As cw cf co cp cs t bb w' HSM.out ((HT0.out.mono (bAlloc (Below.refl _ _) (.cells #[.int .i64 t.q.wells, .slice Aw t.q.nw cw, .slice Af t.q.nf cf, .slice Ao t.no co, .slice Ap t.np cp, .slice As t.ns cs, .int .i64 t.far, .int .i64 t.harm, .int .i64 t.many] 29))).mono hb)).mono fun e w'' h => ⟨HER.out ▸ h.1, h.2⟩ : Calls Tryz.prog 97 #[.agg #[.int .i64 t.q.wells, .slice Aw t.q.nw cw, .slice Af t.q.nf cf, .slice Ao t.no co, .slice Ap t.np cp, .slice As t.ns cs, .int .i64 t.far, .int .i64 t.harm, .int .i64 t.many], .bool bb] w' fun e w'' => Kn9 w'' t er e ∧ Below w'.heap.size w' w''))
    refine wp_region_call 4 (fun v w2 => Kn9 w2 t er (.returned v) ∧ Below (w.alloc (.cells #[.int .i64 t.q.wells, .slice Aw t.q.nw cw, .slice Af t.q.nf cf, .slice Ao t.no co, .slice Ap t.np cp, .slice As t.ns cs, .int .i64 t.far, .int .i64 t.harm, .int .i64 t.many] 29)).heap.size (w.alloc (.cells #[.int .i64 t.q.wells, .slice Aw t.q.nw cw, .slice Af t.q.nf cf, .slice Ao t.no co, .slice Ap t.np cp, .slice As t.ns cs, .int .i64 t.far, .int .i64 t.harm, .int .i64 t.many] 29)) w2) (by kernel_rfl) (by decide +kernel) rfl ?_
    apply Exists.intro
    refine ⟨fun K hK => ?_, ?_, fun w1 hb1 K Q' hK => ?_, ?_⟩
    · skip
      repeat (first | (refine wpCalm_skip rfl ?_) | (refine wpCalm_step rfl (fun K hK => ?_); go_simp; (first | (refine hK _ ?_; clear hK K) | (apply Exists.intro; refine ⟨fun _ => ?_, hK _ ?_⟩; ((go_at_call 40; with_reducible exact newer_of (HC1.out _))); clear hK K))))
      refine wpCalm_nil ?_
      exact hK
    · rfl
    · go_simp
      refine (HCO.out w1 hb1).mono ?_
      rintro e w2 ⟨ho, hb2⟩
      obtain ⟨v, rfl⟩ := Kn9.ret ho
      exact hK v w2 ⟨ho, bTrans hb1 hb2⟩
    clear HCO
    rintro v w2 ⟨ho, hb2⟩
    obtain rfl := Ending.returned.inj (ho.1 HNZ.out)
    clear ho
    apply Exists.intro
    refine ⟨fun K hK => ?_, fun w1 hb3 => ?_⟩
    · skip
      repeat (first | (refine wpCalm_skip rfl ?_) | (refine wpCalm_step rfl (fun K hK => ?_); go_simp; (first | (refine hK _ ?_; clear hK K) | (apply Exists.intro; refine ⟨fun _ => ?_, hK _ ?_⟩; (fail); clear hK K))))
      refine wpCalm_nil ?_
      exact hK
    have hb := bTrans hb2 hb3
    clear hb2 hb3
    have hB1 : Below w.heap.size w w1 := bTrans (bAlloc (Below.refl _ _) (.cells #[.int .i64 t.q.wells, .slice Aw t.q.nw cw, .slice Af t.q.nf cf, .slice Ao t.no co, .slice Ap t.np cp, .slice As t.ns cs, .int .i64 t.far, .int .i64 t.harm, .int .i64 t.many] 29)) hb
    have HD1 := Lib.hid (bTrans HD0.out hB1)
    have HT1 := Lib.hid (HT0.out.mono hB1)
    have T1 := Lib.hid (show TBox w1 w.heap.size 29 #[.int .i64 t.q.wells, .slice Aw t.q.nw cw, .slice Af t.q.nf cf, .slice Ao t.no co, .slice Ap t.np cp, .slice As t.ns cs, .int .i64 t.far, .int .i64 t.harm, .int .i64 t.many] from by have := ((TBox.new w #[.int .i64 t.q.wells, .slice Aw t.q.nw cw, .slice Af t.q.nf cf, .slice Ao t.no co, .slice Ap t.np cp, .slice As t.ns cs, .int .i64 t.far, .int .i64 t.harm, .int .i64 t.many] 29).mono (Below.refl _ _)).mono hb; simpa using this)
    clear hb hB1 HD0 HT0
    obtain ⟨T_0, T_1, T_2, T_3, T_4, T_5, T_6, T_7, T_8, T_l⟩ := T1.out.c9
    go_wp2_with fail
    go_ret2
    exact ⟨⟨fun h => absurd (HR.out.symm.trans h) HNZ.out, fun _ => by rw [HR.out]; rfl⟩, HD1.out⟩
  subst he
  have HEZ := Lib.hid (HE.out.trans (if_pos rfl))
  obtain ⟨ok, rfl, hne⟩ := Pt.knowErr_zero HER.out
  have HOK := Lib.hid ok
  have hn := hasB_iff.1 HBB.out
  obtain ⟨i, rfl⟩ : ∃ i : Nat, n = (i : Int) := ⟨n.toNat, by omega⟩
  have HI := Lib.hid (show i < t.ns by omega)
  rw [Int.toNat_natCast] at HEZ
  clear ok hn hne
  go_wp2_with fail
  have HCO := Lib.hid (fun (w' : World) (hb : Below (w.alloc (.cells #[.int .i64 t.q.wells, .slice Aw t.q.nw cw, .slice Af t.q.nf cf, .slice Ao t.no co, .slice Ap t.np cp, .slice As t.ns cs, .int .i64 t.far, .int .i64 t.harm, .int .i64 t.many] 29)).heap.size (w.alloc (.cells #[.int .i64 t.q.wells, .slice Aw t.q.nw cw, .slice Af t.q.nf cf, .slice Ao t.no co, .slice Ap t.np cp, .slice As t.ns cs, .int .i64 t.far, .int .i64 t.harm, .int .i64 t.many] 29)) w') => ((known9_any Aw Af Ao Ap As cw cf co cp cs t true w' HSM.out ((HT0.out.mono (bAlloc (Below.refl _ _) (.cells #[.int .i64 t.q.wells, .slice Aw t.q.nw cw, .slice Af t.q.nf cf, .slice Ao t.no co, .slice Ap t.np cp, .slice As t.ns cs, .int .i64 t.far, .int .i64 t.harm, .int .i64 t.many] 29))).mono hb)).mono fun e w'' h => ⟨HER.out ▸ h.1, h.2⟩ : Calls Tryz.prog 97 #[.agg #[.int .i64 t.q.wells, .slice Aw t.q.nw cw, .slice Af t.q.nf cf, .slice Ao t.no co, .slice Ap t.np cp, .slice As t.ns cs, .int .i64 t.far, .int .i64 t.harm, .int .i64 t.many], .bool true] w' fun e w'' => Kn9 w'' t 0 e ∧ Below w'.heap.size w' w''))
  refine wp_region_call 4 (fun v w2 => Kn9 w2 t 0 (.returned v) ∧ Below (w.alloc (.cells #[.int .i64 t.q.wells, .slice Aw t.q.nw cw, .slice Af t.q.nf cf, .slice Ao t.no co, .slice Ap t.np cp, .slice As t.ns cs, .int .i64 t.far, .int .i64 t.harm, .int .i64 t.many] 29)).heap.size (w.alloc (.cells #[.int .i64 t.q.wells, .slice Aw t.q.nw cw, .slice Af t.q.nf cf, .slice Ao t.no co, .slice Ap t.np cp, .slice As t.ns cs, .int .i64 t.far, .int .i64 t.harm, .int .i64 t.many] 29)) w2) (by kernel_rfl) (by decide +kernel) rfl ?_
  apply Exists.intro
  refine ⟨fun K hK => ?_, ?_, fun w1 hb1 K Q' hK => ?_, ?_⟩
  · skip
    repeat (first | (refine wpCalm_skip rfl ?_) | (refine wpCalm_step rfl (fun K hK => ?_); go_simp; (first | (refine hK _ ?_; clear hK K) | (apply Exists.intro; refine ⟨fun _ => ?_, hK _ ?_⟩; ((go_at_call 40; with_reducible exact newer_of (HC1.out _))); clear hK K))))
    refine wpCalm_nil ?_
    exact hK
  · rfl
  · go_simp
    refine (HCO.out w1 hb1).mono ?_
    rintro e w2 ⟨ho, hb2⟩
    obtain ⟨v, rfl⟩ := Kn9.ret ho
    exact hK v w2 ⟨ho, bTrans hb1 hb2⟩
  clear HCO
  rintro v w2 ⟨ho, hb2⟩
  obtain ⟨A4, c4, e1, hL⟩ := ho.2 rfl
  obtain rfl := Ending.returned.inj e1
  clear ho e1
  apply Exists.intro
  refine ⟨fun K hK => ?_, fun w1 hb3 => ?_⟩
  · skip
    repeat (first | (refine wpCalm_skip rfl ?_) | (refine wpCalm_step rfl (fun K hK => ?_); go_simp; (first | (refine hK _ ?_; clear hK K) | (apply Exists.intro; refine ⟨fun _ => ?_, hK _ ?_⟩; (fail); clear hK K))))
    refine wpCalm_nil ?_
    exact hK
  have hL := hL.mono hb3
  have hb := bTrans hb2 hb3
  clear hb2 hb3
  have hB1 : Below w.heap.size w w1 := bTrans (bAlloc (Below.refl _ _) (.cells #[.int .i64 t.q.wells, .slice Aw t.q.nw cw, .slice Af t.q.nf cf, .slice Ao t.no co, .slice Ap t.np cp, .slice As t.ns cs, .int .i64 t.far, .int .i64 t.harm, .int .i64 t.many] 29)) hb
  have HD1 := Lib.hid (bTrans HD0.out hB1)
  have HT1 := Lib.hid (HT0.out.mono hB1)
  have HL1 := Lib.hid (hL)
  have T1 := Lib.hid (show TBox w1 w.heap.size 29 #[.int .i64 t.q.wells, .slice Aw t.q.nw cw, .slice Af t.q.nf cf, .slice Ao t.no co, .slice Ap t.np cp, .slice As t.ns cs, .int .i64 t.far, .int .i64 t.harm, .int .i64 t.many] from by have := ((TBox.new w #[.int .i64 t.q.wells, .slice Aw t.q.nw cw, .slice Af t.q.nf cf, .slice Ao t.no co, .slice Ap t.np cp, .slice As t.ns cs, .int .i64 t.far, .int .i64 t.harm, .int .i64 t.many] 29).mono (Below.refl _ _)).mono hb; simpa using this)
  clear hb hB1 HD0 HT0
  obtain ⟨T_0, T_1, T_2, T_3, T_4, T_5, T_6, T_7, T_8, T_l⟩ := T1.out.c9
  clear hL
  obtain ⟨n, hn⟩ : ∃ n, t.q.leftL.length = n := ⟨_, rfl⟩
  have HN := Lib.hid hn
  rw [hn]
  clear hn
  go_wp2_with fail
  refine (tests5_any Aw Af cw cf t.m t.q _ (Pt.m_wells HOK.out).symm (by have := HOK.out.q.w1; have := Pt.m_wells HOK.out; omega)).mono ?_
  rintro e w2 ⟨⟨v, rfl, hv⟩, hb⟩
  obtain ⟨A5, c5, rfl, hrow⟩ := hv.read
  have hz16 := tests_len HOK.out.q
  obtain ⟨z, hz⟩ : ∃ z, t.q.tests.length = z := ⟨_, rfl⟩
  rw [hz] at hz16 ⊢
  have HZ := Lib.hid hz
  clear hz
  have hB2 : Below w1.heap.size w1 w2 := bTrans (Below.refl _ _) hb
  have HD2 := Lib.hid (bTrans HD1.out hB2)
  have HT2 := Lib.hid (HT1.out.mono hB2)
  have HL2 := Lib.hid (HL1.out.mono hB2)
  have HRW2 := Lib.hid (hrow)
  have T2 := Lib.hid (T1.out.mono hB2)
  clear hb hB2 HD1 HT1 HL1 T1 T_0 T_1 T_2 T_3 T_4 T_5 T_6 T_7 T_8 T_l
  obtain ⟨T_0, T_1, T_2, T_3, T_4, T_5, T_6, T_7, T_8, T_l⟩ := T2.out.c9
  clear hrow hv
  obtain ⟨bz, hbz⟩ : ∃ b, t.decB i t.q.tests = b := ⟨_, rfl⟩
  have HBZ := Lib.hid hbz
  clear hbz
  go_wp2_with fail
  refine ((by have := decides9_any Aw Af Ao Ap As cw cf co cp cs t A5 c5 t.q.tests A4 c4 i w2 HOK.out HT2.out (fun x hx => tests_ok5 HOK.out.q x ( hx)) (by rw [HZ.out]; omega) HRW2.out HL2.out HI.out; rw [HBZ.out, HN.out, HZ.out] at this; exact this : Calls Tryz.prog 114 #[.agg #[.int .i64 t.q.wells, .slice Aw t.q.nw cw, .slice Af t.q.nf cf, .slice Ao t.no co, .slice Ap t.np cp, .slice As t.ns cs, .int .i64 t.far, .int .i64 t.harm, .int .i64 t.many], .slice A5 z c5, .slice A4 n c4, .int .i64 (i : Int)] w2 fun e w'' => e = .returned (.bool bz) ∧ Below w2.heap.size w2 w'')).mono ?_
  rintro e w3 ⟨rfl, hb⟩
  have hB3 : Below w2.heap.size w2 w3 := bTrans (Below.refl _ _) hb
  have HD3 := Lib.hid (bTrans HD2.out hB3)
  have HT3 := Lib.hid (HT2.out.mono hB3)
  have HL3 := Lib.hid (HL2.out.mono hB3)
  have HRW3 := Lib.hid (HRW2.out.mono hB3)
  have T3 := Lib.hid (T2.out.mono hB3)
  clear hb hB3 HD2 HT2 HL2 HRW2 T2 T_0 T_1 T_2 T_3 T_4 T_5 T_6 T_7 T_8 T_l
  obtain ⟨T_0, T_1, T_2, T_3, T_4, T_5, T_6, T_7, T_8, T_l⟩ := T3.out.c9
  cases bz
  case false =>
    have HR := Lib.hid (show t.decErr (i : Int) = 3 by rw [HEZ.out, HBZ.out]; rfl)
    go_wp2_with fail
    go_ret2
    exact ⟨⟨fun h => absurd (HR.out.symm.trans h) (by decide), fun _ => by rw [HR.out]; rfl⟩, HD3.out⟩
  have HR := Lib.hid (show t.decErr (i : Int) = 0 by rw [HEZ.out, HBZ.out]; rfl)
  obtain ⟨p, hp⟩ : ∃ p : List Tp → Bool, p = fun x => t.decB i x := ⟨_, rfl⟩
  have HP := Lib.hid (show ∀ x, t.decB i x = p x from fun x => by rw [hp])
  have HDL := Lib.hid (show t.decL (i : Int) = fewestL t.q.tests p by unfold Pt.decL; rw [hp, Int.toNat_natCast])
  clear hp
  go_wp2_with fail
  clear T_0 T_1 T_2 T_3 T_4 T_5 T_6 T_7 T_8 T_l
  go_loopw [9] (fun s9 wr => ∃ k : Nat, k ≤ z ∧ s9 = .int .i64 (k : Int) ∧ firstUpTo t.q.tests p 0 k = none ∧ Below w3.heap.size w3 wr) (fun s9 _ => z - (intOf s9).toNat)
  case atStart => exact ⟨0, Nat.zero_le _, rfl, rfl, Below.refl _ _⟩
  case round =>
    obtain ⟨k, hk_k, rfl, hno, hb⟩ := hrel
    have HBk := Lib.hid hb
    have HNO := Lib.hid hno
    clear hno
    have hB4 : Below w3.heap.size w3 wr := bTrans (Below.refl _ _) hb
    have HD4 := Lib.hid (bTrans HD3.out hB4)
    have HT4 := Lib.hid (HT3.out.mono hB4)
    have HL4 := Lib.hid (HL3.out.mono hB4)
    have HRW4 := Lib.hid (HRW3.out.mono hB4)
    have HU_k4 := Lib.hid ((show Upto w3 wr from HBk.out))
    have T4 := Lib.hid (T3.out.mono hB4)
    clear hb hB4
    obtain ⟨T_0, T_1, T_2, T_3, T_4, T_5, T_6, T_7, T_8, T_l⟩ := T4.out.c9
    by_cases hlt_k : k < z
    case pos =>
      have h1_k : (k : Int) < (z : Int) := by omega
      have h0_k : (0 : Int) ≤ (k : Int) := by omega
      have hb_k : k < 100 := by omega
      have HKZ := Lib.hid hlt_k
      go_wp2_with fail
      refine ((by have := lists9_any t.q.tests A5 c5 (by rw [HZ.out]; exact hz16) k 0 wr (by omega) (Nat.zero_le _) HRW4.out; rw [HZ.out, List.drop_zero] at this; exact this : Calls Tryz.prog 115 #[.slice A5 z c5, .int .i64 0, .int .i64 (k : Int)] wr fun e w' => (∃ v, e = .returned v ∧ ListsAt w' wr.heap.size v (listsL t.q.tests k)) ∧ Below wr.heap.size wr w')).mono ?_
      rintro e w5 ⟨⟨v, rfl, us, ho, hrows⟩, hb⟩
      obtain ⟨LL, hLL⟩ : ∃ LL, listsL t.q.tests k = LL := ⟨_, rfl⟩
      rw [hLL] at ho hrows
      obtain ⟨zl, hzl⟩ : ∃ z, LL.length = z := ⟨_, rfl⟩
      rw [hzl] at ho
      obtain ⟨A3, c3, rfl, hk3⟩ := RowK.own ho
      have HR3 := Lib.hid hrows
      have HLL := Lib.hid hLL
      have HZZ := Lib.hid hzl
      have z65 : zl ≤ 65536 := by rw [← hzl, ← hLL]; exact listsL_small (by rw [HZ.out]; exact hz16) k
      have HV3 := Lib.hid hk3.row
      have hB5 : Below wr.heap.size wr w5 := bTrans (Below.refl _ _) hb
      have HD5 := Lib.hid (bTrans HD4.out hB5)
      have HT5 := Lib.hid (HT4.out.mono hB5)
      have HL5 := Lib.hid (HL4.out.mono hB5)
      have HRW5 := Lib.hid (HRW4.out.mono hB5)
      have HU_k5 := Lib.hid (HU_k4.out.mono hB5)
      have T5 := Lib.hid (T4.out.mono hB5)
      clear hb hB5 HD4 HT4 HL4 HRW4 HU_k4 T4 T_0 T_1 T_2 T_3 T_4 T_5 T_6 T_7 T_8 T_l
      obtain ⟨T_0, T_1, T_2, T_3, T_4, T_5, T_6, T_7, T_8, T_l⟩ := T5.out.c9
      clear ho hrows hk3 hLL hzl
      have HV35 := HV3
      go_wp2_with fail
      obtain ⟨wl200, hwl⟩ : ∃ y, y = wr := ⟨_, rfl⟩
      subst hwl
      clear T_0 T_1 T_2 T_3 T_4 T_5 T_6 T_7 T_8 T_l
      go_loopw [11] (fun s11 wr => ∃ j : Nat, j ≤ zl ∧ s11 = .int .i64 (j : Int) ∧ (LL.take j).find? p = none ∧ Below w5.heap.size w5 wr) (fun s11 _ => zl - (intOf s11).toNat)
      case atStart => exact ⟨0, Nat.zero_le _, rfl, rfl, Below.refl _ _⟩
      case round =>
        obtain ⟨j, hk_j, rfl, hni, hb⟩ := hrel
        have HBj := Lib.hid hb
        have HNI := Lib.hid hni
        clear hni
        have hB6 : Below w5.heap.size w5 wr := bTrans (Below.refl _ _) hb
        have HD6 := Lib.hid (bTrans HD5.out hB6)
        have HT6 := Lib.hid (HT5.out.mono hB6)
        have HL6 := Lib.hid (HL5.out.mono hB6)
        have HRW6 := Lib.hid (HRW5.out.mono hB6)
        have HU_k6 := Lib.hid (HU_k5.out.mono hB6)
        have HV36 := Lib.hid (HV35.out.mono hB6)
        have HU_j6 := Lib.hid ((show Upto w5 wr from HBj.out))
        have T6 := Lib.hid (T5.out.mono hB6)
        clear hb hB6
        obtain ⟨T_0, T_1, T_2, T_3, T_4, T_5, T_6, T_7, T_8, T_l⟩ := T6.out.c9
        by_cases hlt_j : j < zl
        case pos =>
          have h1_j : (j : Int) < (zl : Int) := by omega
          have h0_j : (0 : Int) ≤ (j : Int) := by omega
          have hb_j : j < 70000 := by omega
          obtain ⟨l, hl⟩ : ∃ l, LL[j]? = some l := ⟨_, List.getElem?_eq_getElem (by rw [HZZ.out]; exact hlt_j)⟩
          obtain ⟨u, hu⟩ : ∃ u, us[j]? = some u := ⟨_, List.getElem?_eq_getElem (by rw [HR3.out.1, HZZ.out]; exact hlt_j)⟩
          obtain ⟨Au, cu, rfl, hru⟩ := HR3.out.2 j u l hu hl
          rcases HV36.out with h0 | ⟨b2, o2, rfl, hb2, hc2⟩
          · rw [h0] at hu; simp at hu
          have d0 := hc2 j _ hu
          have HRU6 := Lib.hid (hru.row.mono (show Below w5.heap.size w5 wr from HU_j6.out))
          have HLS := Lib.hid hl
          have HSUB := Lib.hid ((listsL_mem.1 (by rw [HLL.out]; exact List.mem_of_getElem? hl : l ∈ listsL t.q.tests k)).1)
          obtain ⟨nl, hnl⟩ : ∃ nl, l.length = nl := ⟨_, rfl⟩
          have hl16 : nl ≤ 16 := by have := HSUB.out.length_le; rw [HZ.out] at this; omega
          have HNL := Lib.hid hnl
          rw [hnl] at d0
          obtain ⟨ba, hba⟩ : ∃ b, t.decB i l = b := ⟨_, rfl⟩
          have HBA := Lib.hid hba
          clear hu hl hc2 hru hnl hba
          have HF := Lib.hid (fun (w' : World) (hb : Below wr.heap.size wr w') => ((by have := decides9_any Aw Af Ao Ap As cw cf co cp cs t Au cu l A4 c4 i w' HOK.out (HT6.out.mono hb) (fun x hx => tests_ok5 HOK.out.q x (HSUB.out.subset hx)) (by rw [HNL.out]; omega) (HRU6.out.mono hb) (HL6.out.mono hb) HI.out; rw [HBA.out, HN.out, HNL.out] at this; exact this : Calls Tryz.prog 114 #[.agg #[.int .i64 t.q.wells, .slice Aw t.q.nw cw, .slice Af t.q.nf cf, .slice Ao t.no co, .slice Ap t.np cp, .slice As t.ns cs, .int .i64 t.far, .int .i64 t.harm, .int .i64 t.many], .slice Au nl cu, .slice A4 n c4, .int .i64 (i : Int)] w' fun e w'' => e = .returned (.bool ba) ∧ Below w'.heap.size w' w'') : Calls Tryz.prog 114 #[.agg #[.int .i64 t.q.wells, .slice Aw t.q.nw cw, .slice Af t.q.nf cf, .slice Ao t.no co, .slice Ap t.np cp, .slice As t.ns cs, .int .i64 t.far, .int .i64 t.harm, .int .i64 t.many], .slice Au nl cu, .slice A4 n c4, .int .i64 (i : Int)] w' fun e w'' => e = .returned (.bool ba) ∧ Below w'.heap.size w' w''))
          cases ba
          · skip
            have HNN := Lib.hid (show (LL.take (j + 1)).find? p = none from find_go HNI.out HLS.out (by rw [← HP.out]; exact HBA.out))
            go_wp2_with fail
            refine wp_region_quiet_below (by kernel_rfl) (by kernel_rfl) ?_
            repeat (go_big_quiet_step (((go_at_call 114; with_reducible exact Calls.regrown_of (HF.out _ (below_regrown _ _ _))))))
            refine wpQuiet_nil ?_
            intro w7 hw9
            have hb := below_of_regrown hw9
            clear hw9
            clear d0 hb2 HF
            have hB7 : Below wr.heap.size wr w7 := bTrans (Below.refl _ _) hb
            have HD7 := Lib.hid (bTrans HD6.out hB7)
            have HT7 := Lib.hid (HT6.out.mono hB7)
            have HL7 := Lib.hid (HL6.out.mono hB7)
            have HRW7 := Lib.hid (HRW6.out.mono hB7)
            have HU_k7 := Lib.hid (HU_k6.out.mono hB7)
            have HV37 := Lib.hid (HV36.out.mono hB7)
            have HU_j7 := Lib.hid (HU_j6.out.mono hB7)
            have HRU7 := Lib.hid (HRU6.out.mono hB7)
            have T7 := Lib.hid (T6.out.mono hB7)
            clear hb hB7 HD6 HT6 HL6 HRW6 HU_k6 HV36 HU_j6 HRU6 T6 T_0 T_1 T_2 T_3 T_4 T_5 T_6 T_7 T_8 T_l
            obtain ⟨T_0, T_1, T_2, T_3, T_4, T_5, T_6, T_7, T_8, T_l⟩ := T7.out.c9
            go_wp2_with fail
            go_roundw
            case rel =>
              first
              | exact ⟨j + 1, by omega, by go_num, HNN.out, HU_j7.out⟩
              | ((repeat apply Exists.intro)
                 refine ⟨⟨j + 1, by omega, ?_, HNN.out, HU_j7.out⟩, rfl⟩
                 go_num)
            case measure => simp [intOf]; omega
          · skip
            have HY := Lib.hid (show t.decL (i : Int) = l by rw [HDL.out]; exact fewestL_at (by rw [HZ.out]; exact HKZ.out) HNO.out (by rw [HLL.out]; exact find_take HNI.out HLS.out (by rw [← HP.out]; exact HBA.out)))
            go_wp2_with fail
            refine wp_region_quiet_below (by kernel_rfl) (by kernel_rfl) ?_
            repeat (go_big_quiet_step (((go_at_call 114; with_reducible exact Calls.regrown_of (HF.out _ (below_regrown _ _ _))))))
            refine wpQuiet_nil ?_
            intro w7 hw9
            have hb := below_of_regrown hw9
            clear hw9
            have d9 := (hb.cell (p := ⟨b2, o2 + j, none⟩) hb2).trans d0
            have hb29 := Nat.lt_of_lt_of_le hb2 hb.size
            clear d0 hb2 HF
            have hB7 : Below wr.heap.size wr w7 := bTrans (Below.refl _ _) hb
            have HD7 := Lib.hid (bTrans HD6.out hB7)
            have HT7 := Lib.hid (HT6.out.mono hB7)
            have HL7 := Lib.hid (HL6.out.mono hB7)
            have HRW7 := Lib.hid (HRW6.out.mono hB7)
            have HU_k7 := Lib.hid (HU_k6.out.mono hB7)
            have HV37 := Lib.hid (HV36.out.mono hB7)
            have HU_j7 := Lib.hid (HU_j6.out.mono hB7)
            have HRU7 := Lib.hid (HRU6.out.mono hB7)
            have T7 := Lib.hid (T6.out.mono hB7)
            clear hb hB7 HD6 HT6 HL6 HRW6 HU_k6 HV36 HU_j6 HRU6 T6 T_0 T_1 T_2 T_3 T_4 T_5 T_6 T_7 T_8 T_l
            obtain ⟨T_0, T_1, T_2, T_3, T_4, T_5, T_6, T_7, T_8, T_l⟩ := T7.out.c9
            go_wp2_with fail
            go_ret2
            exact ⟨⟨fun _ => ⟨Au, cu, by rw [HR.out, HY.out, HNL.out]; rfl, by rw [HY.out]; exact HRU7.out⟩, fun h => absurd HR.out h⟩, HD7.out⟩
        have he_j : j = zl := by omega
        have hk9 : ¬ (j : Int) < (zl : Int) := by omega
        have hk8 : ¬ j < zl := by omega
        have HNN := Lib.hid (firstUpTo_none HNO.out (by
          have := HNI.out
          rw [List.take_of_length_le (by rw [HZZ.out]; omega)] at this
          rw [HLL.out]
          exact this))
        clear he_j
        go_wp2_with fail
        go_roundw
        case rel =>
          first
          | exact ⟨k + 1, by omega, by go_num, HNN.out, HU_k6.out⟩
          | ((repeat apply Exists.intro)
             refine ⟨⟨k + 1, by omega, ?_, HNN.out, HU_k6.out⟩, rfl⟩
             go_num)
        case measure => simp [intOf]; omega
    have he_k : k = z := by omega
    have hk9 : ¬ (k : Int) < (z : Int) := by omega
    have hk8 : ¬ k < z := by omega
    have HFF := Lib.hid (show t.decL (i : Int) = t.q.tests by rw [HDL.out]; unfold fewestL; rw [HZ.out, ← he_k, HNO.out]; rfl)
    clear he_k
    go_wp2_with fail
    go_ret2
    exact ⟨⟨fun _ => ⟨A5, c5, by rw [HR.out, HFF.out, HZ.out]; rfl, by rw [HFF.out]; exact HRW4.out⟩, fun h => absurd HR.out h⟩, HD4.out⟩
end Go.Proofs.YtjpfdhhiofjpbaaGreatDoor

namespace Go.Proofs.YtjpfdhhiofjpbaaGreatDoor
open Go.RowKit Go.Sort
theorem decL_len {t : Pt} {n : Int} : (lstO (t.decErr n) (t.decL n)).length ≤ 100000 := by
  unfold lstO
  by_cases h0 : t.decErr n = 0
  · rw [if_pos h0]
    have ok : t.knowErr (t.hasB n) = 0 := by
      unfold Pt.decErr at h0
      by_cases hk : t.knowErr (t.hasB n) = 0
      · exact hk
      · rw [if_neg hk] at h0; exact h0
    have h1 := (fewestL_sub t.q.tests fun l => t.decB n.toNat l).length_le
    have h2 := tests_len (Pt.knowErr_zero ok).1.q
    unfold Pt.decL
    omega
  · rw [if_neg h0]
    simp
set_option maxHeartbeats 16000000 in
set_option maxRecDepth 100000 in
theorem placesDecide_any (Aw Af Ao Ap As : Option Addr) (cw cf co cp cs : Nat) (t : Pt) (n : Int) (w : World) (hs : t.Fits) (hT : PAt w Aw Af Ao Ap As t) (hB : TabAt w) (hN : NoneAt w) :
    Calls Tryz.prog 13 #[.agg #[.int .i64 t.q.wells, .slice Aw t.q.nw cw, .slice Af t.q.nf cf, .slice Ao t.no co, .slice Ap t.np cp, .slice As t.ns cs, .int .i64 t.far, .int .i64 t.harm, .int .i64 t.many], .int .i64 n] w fun e w' => e = .returned (.bool true) ∧ Below w.heap.size w w' := by
  have HD0 := Lib.hid (Below.refl w.heap.size w)
  have HFI := Lib.hid hs
  have HT0 := Lib.hid hT
  have HTB0 := Lib.hid hB
  have HNA0 := Lib.hid hN
  clear hs hT hB hN
  go_enter Tryz.func13, Tryz.ntmps13
  have HSM := Lib.hid HFI.out.small
  go_wp2_with fail
  refine (far9_any Aw Af Ao Ap As cw cf co cp cs t _ HSM.out (HT0.out.mono (bAlloc (Below.refl _ _) (.cells #[.int .i64 t.q.wells, .slice Aw t.q.nw cw, .slice Af t.q.nf cf, .slice Ao t.no co, .slice Ap t.np cp, .slice As t.ns cs, .int .i64 t.far, .int .i64 t.harm, .int .i64 t.many] 29)))).mono ?_
  rintro e w1 ⟨⟨bf, rfl⟩, hb⟩
  have hB1 : Below w.heap.size w w1 := bTrans (bAlloc (Below.refl _ _) (.cells #[.int .i64 t.q.wells, .slice Aw t.q.nw cw, .slice Af t.q.nf cf, .slice Ao t.no co, .slice Ap t.np cp, .slice As t.ns cs, .int .i64 t.far, .int .i64 t.harm, .int .i64 t.many] 29)) hb
  have HD1 := Lib.hid (bTrans HD0.out hB1)
  have HT1 := Lib.hid (HT0.out.mono hB1)
  have HTB1 := Lib.hid (HTB0.out.mono hB1)
  have HNA1 := Lib.hid (HNA0.out.mono hB1)
  have T1 := Lib.hid (show TBox w1 w.heap.size 29 #[.int .i64 t.q.wells, .slice Aw t.q.nw cw, .slice Af t.q.nf cf, .slice Ao t.no co, .slice Ap t.np cp, .slice As t.ns cs, .int .i64 t.far, .int .i64 t.harm, .int .i64 t.many] from by have := ((TBox.new w #[.int .i64 t.q.wells, .slice Aw t.q.nw cw, .slice Af t.q.nf cf, .slice Ao t.no co, .slice Ap t.np cp, .slice As t.ns cs, .int .i64 t.far, .int .i64 t.harm, .int .i64 t.many] 29).mono (Below.refl _ _)).mono hb; simpa using this)
  clear hb hB1 HD0 HT0 HTB0 HNA0
  obtain ⟨T_0, T_1, T_2, T_3, T_4, T_5, T_6, T_7, T_8, T_l⟩ := T1.out.c9
  cases bf
  case true =>
    go_wp2_with fail
    refine (works9_any _ HTB1.out HNA1.out).mono ?_
    rintro e w2 ⟨rfl, hb⟩
    have hB2 : Below w1.heap.size w1 w2 := bTrans (Below.refl _ _) hb
    have HD2 := Lib.hid (bTrans HD1.out hB2)
    have HT2 := Lib.hid (HT1.out.mono hB2)
    have HTB2 := Lib.hid (HTB1.out.mono hB2)
    have HNA2 := Lib.hid (HNA1.out.mono hB2)
    have T2 := Lib.hid (T1.out.mono hB2)
    clear hb hB2 HD1 HT1 HTB1 HNA1 T1 T_0 T_1 T_2 T_3 T_4 T_5 T_6 T_7 T_8 T_l
    obtain ⟨T_0, T_1, T_2, T_3, T_4, T_5, T_6, T_7, T_8, T_l⟩ := T2.out.c9
    go_wp2_with fail
    go_ret
    exact ⟨rfl, HD2.out⟩
  go_wp2_with fail
  refine (copy9_any Aw Af Ao Ap As cw cf co cp cs t _ HFI.out HT1.out).mono ?_
  rintro e w2 ⟨ho, hb⟩
  obtain ⟨_, _, _, _, _, rfl, hc⟩ := ho
  obtain ⟨Bw, dw, Bf, df, Bo, do_, Bp, dp, Bs, ds, rfl, rfl, rfl, rfl, rfl, hU⟩ := hc.pat
  have hB2 : Below w1.heap.size w1 w2 := bTrans (Below.refl _ _) hb
  have HD2 := Lib.hid (bTrans HD1.out hB2)
  have HT2 := Lib.hid (HT1.out.mono hB2)
  have HTB2 := Lib.hid (HTB1.out.mono hB2)
  have HNA2 := Lib.hid (HNA1.out.mono hB2)
  have HU2 := Lib.hid (hU)
  have T2 := Lib.hid (T1.out.mono hB2)
  clear hb hB2 HD1 HT1 HTB1 HNA1 T1 T_0 T_1 T_2 T_3 T_4 T_5 T_6 T_7 T_8 T_l
  obtain ⟨T_0, T_1, T_2, T_3, T_4, T_5, T_6, T_7, T_8, T_l⟩ := T2.out.c9
  clear hc hU
  go_wp2_with fail
  obtain ⟨er, her⟩ : ∃ y, t.decErr n = y := ⟨_, rfl⟩
  obtain ⟨L, hL⟩ : ∃ y, lstO (t.decErr n) (t.decL n) = y := ⟨_, rfl⟩
  have HX := Lib.hid (And.intro her hL)
  clear her hL
  obtain ⟨z, hz⟩ : ∃ y, (lstO (t.decErr n) (t.decL n)).length = y := ⟨_, rfl⟩
  have HZ := Lib.hid hz
  clear hz
  have HZ2 := Lib.hid (show z = L.length by rw [← HX.out.2, HZ.out])
  have HZL := Lib.hid (show L.length ≤ 100000 by rw [← HX.out.2]; exact decL_len)
  refine ((decideP9_any Bw Bf Bo Bp Bs dw df do_ dp ds t n (w2.alloc (.cells #[.int .i64 t.q.wells, .slice Bw t.q.nw dw, .slice Bf t.q.nf df, .slice Bo t.no do_, .slice Bp t.np dp, .slice Bs t.ns ds, .int .i64 t.far, .int .i64 t.harm, .int .i64 t.many] 29)) HSM.out (HU2.out.mono (bAlloc (Below.refl _ _) (.cells #[.int .i64 t.q.wells, .slice Bw t.q.nw dw, .slice Bf t.q.nf df, .slice Bo t.no do_, .slice Bp t.np dp, .slice Bs t.ns ds, .int .i64 t.far, .int .i64 t.harm, .int .i64 t.many] 29))) (HTB2.out.mono (bAlloc (Below.refl _ _) (.cells #[.int .i64 t.q.wells, .slice Bw t.q.nw dw, .slice Bf t.q.nf df, .slice Bo t.no do_, .slice Bp t.np dp, .slice Bs t.ns ds, .int .i64 t.far, .int .i64 t.harm, .int .i64 t.many] 29))))).mono ?_
  rintro e w3 ⟨ho, hb⟩
  obtain ⟨A6, c6, rfl, hr⟩ := ho.o
  rw [HZ.out]
  rw [HX.out.2] at hr
  rw [HX.out.1]
  have hB3 : Below w2.heap.size w2 w3 := bTrans (bAlloc (Below.refl _ _) (.cells #[.int .i64 t.q.wells, .slice Bw t.q.nw dw, .slice Bf t.q.nf df, .slice Bo t.no do_, .slice Bp t.np dp, .slice Bs t.ns ds, .int .i64 t.far, .int .i64 t.harm, .int .i64 t.many] 29)) hb
  have HD3 := Lib.hid (bTrans HD2.out hB3)
  have HT3 := Lib.hid (HT2.out.mono hB3)
  have HTB3 := Lib.hid (HTB2.out.mono hB3)
  have HNA3 := Lib.hid (HNA2.out.mono hB3)
  have HU3 := Lib.hid (HU2.out.mono hB3)
  have HW3 := Lib.hid (hr)
  have T3 := Lib.hid (T2.out.mono hB3)
  have U3 := Lib.hid (show TBox w3 w2.heap.size 29 #[.int .i64 t.q.wells, .slice Bw t.q.nw dw, .slice Bf t.q.nf df, .slice Bo t.no do_, .slice Bp t.np dp, .slice Bs t.ns ds, .int .i64 t.far, .int .i64 t.harm, .int .i64 t.many] from by have := ((TBox.new w2 #[.int .i64 t.q.wells, .slice Bw t.q.nw dw, .slice Bf t.q.nf df, .slice Bo t.no do_, .slice Bp t.np dp, .slice Bs t.ns ds, .int .i64 t.far, .int .i64 t.harm, .int .i64 t.many] 29).mono (Below.refl _ _)).mono hb; simpa using this)
  clear hb hB3 HD2 HT2 HTB2 HNA2 HU2 T2 T_0 T_1 T_2 T_3 T_4 T_5 T_6 T_7 T_8 T_l
  obtain ⟨T_0, T_1, T_2, T_3, T_4, T_5, T_6, T_7, T_8, T_l⟩ := T3.out.c9
  obtain ⟨U_0, U_1, U_2, U_3, U_4, U_5, U_6, U_7, U_8, U_l⟩ := U3.out.c9
  clear ho hr
  go_wp2_with fail
  refine ((decideR9_any Aw Af Ao Ap As cw cf co cp cs t n w3 HSM.out HT3.out)).mono ?_
  rintro e w4 ⟨ho, hb⟩
  obtain ⟨A7, c7, rfl, hr⟩ := ho.o
  rw [HZ.out]
  rw [HX.out.2] at hr
  rw [HX.out.1]
  have hB4 : Below w3.heap.size w3 w4 := bTrans (Below.refl _ _) hb
  have HD4 := Lib.hid (bTrans HD3.out hB4)
  have HT4 := Lib.hid (HT3.out.mono hB4)
  have HTB4 := Lib.hid (HTB3.out.mono hB4)
  have HNA4 := Lib.hid (HNA3.out.mono hB4)
  have HU4 := Lib.hid (HU3.out.mono hB4)
  have HW4 := Lib.hid (HW3.out.mono hB4)
  have HV4 := Lib.hid (hr)
  have T4 := Lib.hid (T3.out.mono hB4)
  have U4 := Lib.hid (U3.out.mono hB4)
  clear hb hB4 HD3 HT3 HTB3 HNA3 HU3 HW3 T3 T_0 T_1 T_2 T_3 T_4 T_5 T_6 T_7 T_8 T_l U3 U_0 U_1 U_2 U_3 U_4 U_5 U_6 U_7 U_8 U_l
  obtain ⟨T_0, T_1, T_2, T_3, T_4, T_5, T_6, T_7, T_8, T_l⟩ := T4.out.c9
  obtain ⟨U_0, U_1, U_2, U_3, U_4, U_5, U_6, U_7, U_8, U_l⟩ := U4.out.c9
  clear ho hr
  go_wp2_with fail
  refine ((by have := sameTests_any A6 A7 c6 c7 L L w4 HZL.out HZL.out HW4.out HV4.out; rw [← HZ2.out, show decide (L = L) = true from decide_eq_true rfl] at this; exact this : Calls Tryz.prog 61 #[.slice A6 z c6, .slice A7 z c7] w4 fun e w' => e = .returned (.bool true) ∧ Below w4.heap.size w4 w')).mono ?_
  rintro e w5 ⟨rfl, hb⟩
  have hB5 : Below w4.heap.size w4 w5 := bTrans (Below.refl _ _) hb
  have HD5 := Lib.hid (bTrans HD4.out hB5)
  have HT5 := Lib.hid (HT4.out.mono hB5)
  have HTB5 := Lib.hid (HTB4.out.mono hB5)
  have HNA5 := Lib.hid (HNA4.out.mono hB5)
  have HU5 := Lib.hid (HU4.out.mono hB5)
  have HW5 := Lib.hid (HW4.out.mono hB5)
  have HV5 := Lib.hid (HV4.out.mono hB5)
  have T5 := Lib.hid (T4.out.mono hB5)
  have U5 := Lib.hid (U4.out.mono hB5)
  clear hb hB5 HD4 HT4 HTB4 HNA4 HU4 HW4 HV4 T4 T_0 T_1 T_2 T_3 T_4 T_5 T_6 T_7 T_8 T_l U4 U_0 U_1 U_2 U_3 U_4 U_5 U_6 U_7 U_8 U_l
  obtain ⟨T_0, T_1, T_2, T_3, T_4, T_5, T_6, T_7, T_8, T_l⟩ := T5.out.c9
  obtain ⟨U_0, U_1, U_2, U_3, U_4, U_5, U_6, U_7, U_8, U_l⟩ := U5.out.c9
  go_wp2_with fail
  refine (same9_any Bw Bf Bo Bp Bs dw df do_ dp ds t Aw Af Ao Ap As cw cf co cp cs _ HSM.out HU5.out HT5.out).mono ?_
  rintro e w6 ⟨rfl, hb⟩
  have hB6 : Below w5.heap.size w5 w6 := bTrans (Below.refl _ _) hb
  have HD6 := Lib.hid (bTrans HD5.out hB6)
  have HT6 := Lib.hid (HT5.out.mono hB6)
  have HTB6 := Lib.hid (HTB5.out.mono hB6)
  have HNA6 := Lib.hid (HNA5.out.mono hB6)
  have HU6 := Lib.hid (HU5.out.mono hB6)
  have HW6 := Lib.hid (HW5.out.mono hB6)
  have HV6 := Lib.hid (HV5.out.mono hB6)
  have T6 := Lib.hid (T5.out.mono hB6)
  have U6 := Lib.hid (U5.out.mono hB6)
  clear hb hB6 HD5 HT5 HTB5 HNA5 HU5 HW5 HV5 T5 T_0 T_1 T_2 T_3 T_4 T_5 T_6 T_7 T_8 T_l U5 U_0 U_1 U_2 U_3 U_4 U_5 U_6 U_7 U_8 U_l
  obtain ⟨T_0, T_1, T_2, T_3, T_4, T_5, T_6, T_7, T_8, T_l⟩ := T6.out.c9
  obtain ⟨U_0, U_1, U_2, U_3, U_4, U_5, U_6, U_7, U_8, U_l⟩ := U6.out.c9
  go_wp2_with fail
  refine (works9_any _ HTB6.out HNA6.out).mono ?_
  rintro e w7 ⟨rfl, hb⟩
  have hB7 : Below w6.heap.size w6 w7 := bTrans (Below.refl _ _) hb
  have HD7 := Lib.hid (bTrans HD6.out hB7)
  have HT7 := Lib.hid (HT6.out.mono hB7)
  have HTB7 := Lib.hid (HTB6.out.mono hB7)
  have HNA7 := Lib.hid (HNA6.out.mono hB7)
  have HU7 := Lib.hid (HU6.out.mono hB7)
  have HW7 := Lib.hid (HW6.out.mono hB7)
  have HV7 := Lib.hid (HV6.out.mono hB7)
  have T7 := Lib.hid (T6.out.mono hB7)
  have U7 := Lib.hid (U6.out.mono hB7)
  clear hb hB7 HD6 HT6 HTB6 HNA6 HU6 HW6 HV6 T6 T_0 T_1 T_2 T_3 T_4 T_5 T_6 T_7 T_8 T_l U6 U_0 U_1 U_2 U_3 U_4 U_5 U_6 U_7 U_8 U_l
  obtain ⟨T_0, T_1, T_2, T_3, T_4, T_5, T_6, T_7, T_8, T_l⟩ := T7.out.c9
  obtain ⟨U_0, U_1, U_2, U_3, U_4, U_5, U_6, U_7, U_8, U_l⟩ := U7.out.c9
  go_wp2_with fail
  go_ret
  exact ⟨rfl, HD7.out⟩
end Go.Proofs.YtjpfdhhiofjpbaaGreatDoor

