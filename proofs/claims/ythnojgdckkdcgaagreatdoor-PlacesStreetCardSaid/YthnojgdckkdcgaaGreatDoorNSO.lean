/- Parts joined: what all claims of this seat need. -/
import Derived.Test.YthnojgdckkdcgaaGreatDoorNSN
import Derived.Test.YthnojgdckkdcgaaGreatDoorNSL
set_option linter.unusedSimpArgs false
set_option linter.unusedVariables false
namespace Go.Proofs.YthnojgdckkdcgaaGreatDoor
open Go.RowKit Go.Sort Go.Shelf
attribute [local go_sem] Oper.semAt_some
noncomputable def encF (t : Pt) (x : Int) : Array Value := #[.int .i64 x, .int .i64 (t.cheap x.toNat).1]
theorem selTo_nil {p : Nat → Bool} : ∀ {n : Nat}, selTo p n = [] ↔ anyB p n = false
  | n => by
    rw [anyB_false]
    constructor
    · intro h i hi
      cases hp : p i
      · rfl
      · have : (i : Int) ∈ selTo p n := selTo_mem.2 ⟨i, hi, hp, rfl⟩
        rw [h] at this
        cases this
    · intro h
      cases hs : selTo p n with
      | nil => rfl
      | cons x l =>
        obtain ⟨i, hi, hp, _⟩ := selTo_mem.1 (show x ∈ selTo p n by rw [hs]; exact List.mem_cons_self ..)
        rw [h i hi] at hp
        cases hp
theorem whoAny_iff {t : Pt} {s : Nat} : t.whoAny s = false ↔ t.who s = [] := selTo_nil.symm
theorem below_chain {N : Nat} {A B D : World} (h : Below N A B) (k : Below N B D) : Below N A D :=
  ⟨k.os.trans h.os, k.tape.trans h.tape, k.output.trans h.output, Nat.le_trans h.size k.size, fun j hj => (k.block j hj).trans (h.block j hj)⟩
theorem below_putB {N : Nat} {w W : World} {D : Nat} (h : Below N w W) (hD : N ≤ D) (o : Obj) : Below N w (W.putObj D o) :=
  ⟨h.os, h.tape, h.output, by simpa [World.putObj] using h.size, fun k hk => (World.putObj_heap_other (by omega)).trans (h.block k hk)⟩
set_option maxHeartbeats 8000000 in
set_option maxRecDepth 100000 in
theorem free_seq (n C : Nat) (Aw Af Ao Ap As : Option Addr) (cw cf co cp cs : Nat) (t : Pt) (Al : Option Addr) (cl : Nat) (w0 w : World) (hn : 3 ≤ n) (hst : StreetAt w0 C Aw Af Ao Ap As cw cf co cp cs t Al cl) (hN : NoneAt w0) (hb0 : Below w0.heap.size w0 w) (ok : t.Ok) (hsm : t.Small) :
    SeqC Fence.wide n Tryz.prog 85 #[.pointer (some ⟨C, 0, none⟩)] #[] (encF t) (Below w0.heap.size) (· = t.frees) (· <+: t.frees) (fun pre x => pre ++ [x] <+: t.frees) w := by
  intro l J Jx W0 hW hJ hJx hY h0
  have HY := Lib.hid hY
  have HJJ := Lib.hid hJ
  have HJX := Lib.hid hJx
  have HST := Lib.hid hst
  have HNN := Lib.hid hN
  have HOK := Lib.hid ok
  have HSM := Lib.hid hsm
  have HB0 := Lib.hid (bTrans hb0 hW)
  have hns := ok.ns
  have hn1 : 1 ≤ n := by omega
  obtain ⟨c0, c1, c2, c3, c4, c5, c6, c7, c8, c9, hCl⟩ := (hst.mono HB0.out).box.c10
  have HW0 := Lib.hid (show w0.heap.size ≤ W0.heap.size from HB0.out.size)
  have leave : ∀ {G : List Int → World → Prop} {pre : List Int} (hG : OwnFrom W0.heap.size G) (tmps : Array Value) (ds : List Deferred) (W : World), Marks W0.heap.size W ds → G pre W → (G pre = G pre → ∀ X, G pre X → (∃ v, Ending.returned (.tuple #[]) = .returned v) ∧ ((∃ xs, xs = t.frees ∧ J xs X) ∨ (∃ pre, pre <+: t.frees ∧ Jx pre X))) → LeavesInM Fence.wide n Tryz.prog Tryz.f85 tmps (fun e W' => (∃ v, e = .returned v) ∧ ((∃ xs, xs = t.frees ∧ J xs W') ∨ (∃ pre, pre <+: t.frees ∧ Jx pre W'))) ds .returning W := by
    intro G pre hG tmps ds W hm hg hR
    exact leaves_marks (T := G pre) (fun X D hB hD h => hG.putObj (s := pre) _ h hB hD rfl) (fun X h => ⟨_, results_none rfl _ _ _, hR rfl X h⟩) ds W hm hg
  have HLV1 := Lib.hid (fun (tmps : Array Value) (ds : List Deferred) (W : World) (hm : Marks W0.heap.size W ds) (hg : J t.frees W) => leave (pre := t.frees) hJ tmps ds W hm hg (fun _ X h => ⟨⟨_, rfl⟩, .inl ⟨_, rfl, h⟩⟩))
  have HLV2 := Lib.hid (fun (pre : List Int) (hp : pre <+: t.frees) (tmps : Array Value) (ds : List Deferred) (W : World) (hm : Marks W0.heap.size W ds) (hg : Jx pre W) => leave (pre := pre) hJx tmps ds W hm hg (fun _ X h => ⟨⟨_, rfl⟩, .inr ⟨_, hp, h⟩⟩))
  clear leave hY hJ hJx hW hst hN ok hsm hb0
  refine callsIn_of_wp_marks Tryz.func85 rfl trivial ?_ rfl
  simp only [Tryz.ntmps85, List.size_toArray, List.length_cons, List.length_nil, Nat.reduceAdd, Nat.reduceSub, Array.replicate_succ, Array.replicate_zero, List.push_toArray, List.append_toArray, List.nil_append, List.cons_append]
  gi_wp2
  refine wpIn_scope_wide (wpIn_seq (wpIn_label ?_))
  gi_wp2
  clear c0 c1 c2 c3 c4 c5 c6 c7 c8 c9
  refine wpIn_loop_inv t.ns (fun i a W => ∃ u2 u3 u4 u5 u6 u7 u8 u9 u10 u11 u14 u15 u16 u17 u18 u19 u20 u21 u22 u23 u24 u25 u26 u27 u28 u29 u30 u31 u32 u33 ds, a = { tmps := #[.pointer (some ⟨C, 0, none⟩), .func (.yield l) #[] #[], u2, u3, u4, u5, u6, u7, u8, u9, u10, u11, .int .i64 t.ns, .int .i64 (i : Int), u14, u15, u16, u17, u18, u19, u20, u21, u22, u23, u24, u25, u26, u27, u28, u29, u30, u31, u32, u33], defers := ds } ∧ Marks W0.heap.size W ds ∧ J (selTo t.freeB i) W ∧ Below w0.heap.size w0 W ∧ W0.heap.size ≤ W.heap.size) ?h0 ?hr
  case h0 => exact ⟨_, _, _, _, _, _, _, _, _, _, _, _, _, _, _, _, _, _, _, _, _, _, _, _, _, _, _, _, _, _, _, rfl, trivial, h0, HB0.out, Nat.le_refl _⟩
  case hr =>
    rintro i a wr hi ⟨u2, u3, u4, u5, u6, u7, u8, u9, u10, u11, u14, u15, u16, u17, u18, u19, u20, u21, u22, u23, u24, u25, u26, u27, u28, u29, u30, u31, u32, u33, ds, rfl, hm, hj, hb, hz⟩ K hK
    have HK := Lib.hid hK
    have HM := Lib.hid hm
    have HJ := Lib.hid hj
    have HB := Lib.hid hb
    clear hm hj hb h0 hK
    by_cases hlt : i < t.ns
    · have i1 : (i : Int) < (t.ns : Int) := by omega
      have hi9 : i < 100 := by omega
      have HI := Lib.hid hlt
      have hwi : IntKind.i64.wrap ((i : Int) + 1) = ((i + 1 : Nat) : Int) := IntWalk.i64_in _ (by omega)
      gi_wp2
      refine ⟨trivial, (callsIn_wide.2 (priceP_any C Aw Af Ao Ap As cw cf co cp cs t Al cl i _ (HST.out.mono HB.out) HSM.out HI.out (HNN.out.mono HB.out))).mono ?_⟩
      rintro e w4 ⟨rfl, hb4⟩
      have HJ4 := Lib.hid (HJJ.out _ _ _ none HJ.out (grown_below hb4) (fun r e => by cases e))
      have HB4 := Lib.hid (bTrans HB.out hb4)
      have HM4 := Lib.hid (HM.out.keep fun D _ hD => (hb4.block D (Array.getElem?_eq_some_iff.1 hD).1).trans hD)
      obtain ⟨pr, hpr⟩ : ∃ p, (t.cheap i).1 = p := ⟨_, rfl⟩
      have HPR := Lib.hid hpr
      rw [hpr]
      have hz4 : W0.heap.size ≤ w4.heap.size := Nat.le_trans hz hb4.size
      clear hb4 hpr
      cases hcan : t.canB i
      · have HT := Lib.hid (selTo_f (p := t.freeB) (n := i) (by unfold Pt.freeB; rw [hcan]; rfl))
        clear hcan
        gi_wp2
        exact HK.out _ _ HI.out ⟨_, _, _, _, _, _, _, _, _, _, _, _, _, _, _, _, _, _, _, _, _, _, _, _, _, _, _, _, _, _, _, rfl, HM4.out, by rw [HT.out]; exact HJ4.out, HB4.out, hz4⟩
      · have HCAN := Lib.hid hcan
        clear hcan
        gi_wp2
        refine ⟨trivial, (callsIn_wide.2 (whoP_any C i _)).mono ?_⟩
        rintro e w5 ⟨rfl, hw5⟩
        have hb5 : Below w4.heap.size w4 w5 := hw5 ▸ bAlloc (bAlloc (Below.refl _ _) _) _
        have HX1 := Lib.hid (show TBox w5 w4.heap.size 135 #[.pointer (some ⟨C, 0, none⟩)] from hw5 ▸ (TBox.new w4 #[.pointer (some ⟨C, 0, none⟩)] 135).mono (bAlloc (Below.refl _ _) _))
        have HX2 := Lib.hid (show TBox w5 (w4.heap.size + 1) 3 #[.int .i64 (i : Int)] from hw5 ▸ (by have := TBox.new (w4.alloc (.cells #[.pointer (some ⟨C, 0, none⟩)] 135)) #[.int .i64 (i : Int)] 3; simpa using this))
        have HJ5 := Lib.hid (HJJ.out _ _ _ none HJ4.out (grown_below hb5) (fun r e => by cases e))
        have HB5 := Lib.hid (bTrans HB4.out hb5)
        have HM5 := Lib.hid (HM4.out.keep fun D _ hD => (hb5.block D (Array.getElem?_eq_some_iff.1 hD).1).trans hD)
        have hl1 := HX1.out.lt
        have hl2 := HX2.out.lt
        have hN5 := HB5.out.size
        have HW5 := Lib.hid (show W0.heap.size ≤ w5.heap.size from Nat.le_trans hz4 hb5.size)
        have HSEQ := Lib.hid (who_seq (n - 1) C w4.heap.size (w4.heap.size + 1) Aw Af Ao Ap As cw cf co cp cs t Al cl i w0 w5 (by omega) HST.out HB5.out HX1.out HX2.out HOK.out HI.out)
        clear hb5 hw5
        gi_wp2
        refine wpIn_range_caps (gf := 133) (bnd := #[]) (lb := whoF w4.heap.size (w4.heap.size + 1)) rfl (by omega) rfl trivial (enters_of Tryz.func133 (by kernel_rfl)) HSEQ.out (fun h k => h.trans k) (kpW_b hN5 hl1 hl2) (fun _ => rfl)
          (fun pre W => pre = [] ∧ Below w5.heap.size w5 W)
          (fun c pre W => c = .exit 1 ∧ pre ≠ [] ∧ Below w5.heap.size w5 W)
          ((ownFrom_pure _ (fun pre : List Int => pre = [])).and (ownFrom_below (Nat.le_refl _) (Nat.le_refl _)))
          (fun c => (ownFrom_pure _ (fun _ => c = .exit 1)).and ((ownFrom_pure _ (fun pre : List Int => pre ≠ [])).and (ownFrom_below (Nat.le_refl _) (Nat.le_refl _))))
          ⟨rfl, Below.refl _ _⟩
          (fun x a' W => True)
          (fun x a' _ X Y row hs hg hr => trivial) ?assign ?body ?done ?stop
        case assign =>
          rintro l' pre x W K' hsz ⟨hpre, hbel⟩ hK'
          gi_wp2
          exact hK' _ _ (KeepsFrom.refl _ _) (KpW.refl _ _ _ _) ⟨hpre, hbel⟩ trivial
        case body =>
          rintro l' pre x a' W hsz ⟨hpre, hbel⟩ _ hlen
          gi_wp2
          exact ⟨KeepsFrom.refl _ _, rfl, by simp, hbel⟩
        case done =>
          rintro D xs W hD hxs ⟨rfl, hbel⟩ hDef
          have HT := Lib.hid (selTo_t (p := t.freeB) (n := i) (by unfold Pt.freeB; rw [HCAN.out, whoAny_iff.2 hxs.symm]; rfl))
          have HJ6 := Lib.hid (HJJ.out _ _ _ none HJ5.out (grown_below hbel) (fun r e => by cases e))
          have HB6 := Lib.hid (bTrans HB5.out hbel)
          have HM6 := Lib.hid (HM5.out.push hbel (Nat.le_trans HW5.out hD) hD hDef)
          have hz6 := hbel.size
          clear hbel hDef hxs
          obtain ⟨fn, tmps, assign, body, hy, hR⟩ := HY.out _ (i : Int) _ HJ6.out (by rw [← HT.out]; exact selTo_prefix _ (by omega))
          simp only [encF, Int.toNat_natCast, HPR.out] at hy
          gi_wp2
          refine hR.mono ?_
          rintro e W3 (⟨rfl, hJ3, hk3, hkf⟩ | ⟨rfl, hJx3, hkf⟩)
          · have HJ3 := Lib.hid (HT.out.symm ▸ hJ3 : J (selTo t.freeB (i + 1)) W3)
            have HB3 := Lib.hid (below_chain HB6.out hk3)
            have HM3 := Lib.hid (HM6.out.keeps hkf)
            have hz3 := hk3.size
            clear hJ3 hk3 hkf hy
            gi_wp2
            exact HK.out _ _ HI.out ⟨_, _, _, _, _, _, _, _, _, _, _, _, _, _, _, _, _, _, _, _, _, _, _, _, _, _, _, _, _, _, _, rfl, HM3.out, HJ3.out, HB3.out, Nat.le_trans HW5.out (Nat.le_trans hz6 hz3)⟩
          · have HX := Lib.hid (HT.out.symm ▸ hJx3 : Jx (selTo t.freeB (i + 1)) W3)
            have HM3 := Lib.hid (HM6.out.keeps hkf)
            clear hJx3 hkf hy
            gi_wp2
            exact HLV2.out _ (selTo_prefix _ (by omega)) _ _ _ HM3.out HX.out
        case stop =>
          rintro D c pre W hD hpre ⟨rfl, hne, hbel⟩ hDef
          have HT := Lib.hid (selTo_f (p := t.freeB) (n := i) (by
            unfold Pt.freeB
            rw [HCAN.out]
            cases hwa : t.whoAny i
            · rw [whoAny_iff.1 hwa] at hpre
              exact absurd (List.prefix_nil.1 hpre) hne
            · rfl))
          have HJ6 := Lib.hid (HJJ.out _ _ _ none HJ5.out (grown_below hbel) (fun r e => by cases e))
          have HB6 := Lib.hid (bTrans HB5.out hbel)
          have HM6 := Lib.hid (HM5.out.push hbel (Nat.le_trans HW5.out hD) hD hDef)
          have hz6 := hbel.size
          clear hbel hDef hpre hne
          gi_wp2
          exact HK.out _ _ HI.out ⟨_, _, _, _, _, _, _, _, _, _, _, _, _, _, _, _, _, _, _, _, _, _, _, _, _, _, _, _, _, _, _, rfl, HM6.out, by rw [HT.out]; exact HJ6.out, HB6.out, Nat.le_trans HW5.out hz6⟩
    · obtain rfl : i = t.ns := by omega
      gi_wp2
      exact HLV1.out _ _ _ HM.out HJ.out
end Go.Proofs.YthnojgdckkdcgaaGreatDoor

namespace Go.Proofs.YthnojgdckkdcgaaGreatDoor
open Go.RowKit Go.Sort Go.Shelf
attribute [local go_sem] Oper.semAt_some
/-- the town's memory is kept, and each box of a street's pointer -/
def KpT (N C : Nat) (A B : World) : Prop := Below N A B ∧ ∀ k : Nat, A.heap[k]? = some (Obj.cells #[.pointer (some ⟨C, 0, none⟩)] 135 (0, 0)) → B.heap[k]? = A.heap[k]?
theorem KpT.refl (N C : Nat) (A : World) : KpT N C A A := ⟨Below.refl _ _, fun _ _ => rfl⟩
theorem KpT.trans {N C : Nat} {A B D : World} (h : KpT N C A B) (k : KpT N C B D) : KpT N C A D := ⟨below_chain h.1 k.1, fun j hj => (k.2 j ((h.2 j hj).trans hj)).trans (h.2 j hj)⟩
theorem KpT.put {N C : Nat} {W : World} {l : Nat} {o : Obj} (hl : N ≤ l) (ho : W.heap[l]? = some o) (hc : o.isCells = false) (o' : Obj) : KpT N C W (W.putObj l o') :=
  ⟨below_putB (Below.refl _ _) hl _, fun k hk => World.putObj_heap_other (fun e => by subst e; rw [ho] at hk; injection hk with hk; subst hk; cases hc)⟩
theorem KpT.set {N C : Nat} {W : World} {b : Nat} {v : Value} (hb : N ≤ b) (hB : Boxed W b 3 v) (u : Value) : KpT N C W (W.setCell ⟨b, 0, none⟩ u) :=
  ⟨Below.setCell (p := ⟨b, 0, none⟩) (Below.refl _ _) hb u, fun k hk => Below.heap_setCell W ⟨b, 0, none⟩ u k (fun e => by
    have e : k = b := e
    subst e
    have := hk.symm.trans (show W.heap[k]? = some (Obj.cells #[v] 3 (0, 0)) from hB)
    injection this with this
    injection this with _ h _
    exact absurd h (by decide))⟩
theorem SeqC.weaken {α : Type} {F : Fence} {n : Nat} {P : Program} {gf : Nat} {bnd lb : Array Value} {encs : α → Array Value} {Kp Kp' : World → World → Prop} {S Sp : List α → Prop} {N : List α → α → Prop} {w : World} (hk : ∀ A B, Kp' A B → Kp A B) (h : SeqC F n P gf bnd lb encs Kp S Sp N w) : SeqC F n P gf bnd lb encs Kp' S Sp N w :=
  fun l J Jx W hW hJ hJx hY h0 => h l J Jx W hW hJ hJx (fun pre x W1 hj hn => (hY pre x W1 hj hn).mono fun e w' hr => hr.imp (fun ⟨a, b, c, d⟩ => ⟨a, b, hk _ _ c, d⟩) id) h0
/-- the first at which f is least, of those that came -/
def stepB (f : Int → Int) (b : Option Int) (x : Int) : Option Int := match b with | none => some x | some c => if f x < f c then some x else some c
def bestL (f : Int → Int) (L : List Int) : Option Int := L.foldl (stepB f) none
theorem bestL_snoc (f : Int → Int) (L : List Int) (x : Int) : bestL f (L ++ [x]) = stepB f (bestL f L) x := by unfold bestL; rw [List.foldl_append]; rfl
theorem bestL_mem {f : Int → Int} : ∀ {L : List Int} {c : Int}, bestL f L = some c → c ∈ L := by
  have key : ∀ (L : List Int) (b : Option Int) (c : Int), L.foldl (stepB f) b = some c → c ∈ L ∨ b = some c := by
    intro L
    induction L with
    | nil => exact fun b c h => .inr h
    | cons x L ih =>
      intro b c h
      rcases ih _ _ h with h1 | h1
      · exact .inl (List.mem_cons_of_mem _ h1)
      · unfold stepB at h1
        cases b with
        | none => injection h1 with h1; exact .inl (h1 ▸ List.mem_cons_self ..)
        | some d =>
          simp only at h1
          split at h1
          · injection h1 with h1; exact .inl (h1 ▸ List.mem_cons_self ..)
          · exact .inr h1
  intro L c h
  exact (key L none c h).resolve_right (by simp)
def bI : Option Int → Int | none => -1 | some c => c
def lI (f : Int → Int) : Option Int → Int | none => 0 | some c => f c
def oI : Option Int → Int × Int | none => (0, 3) | some c => (c, 0)
noncomputable def encV (f : Int → Int) (x : Int) : Array Value := #[.int .i64 x, .int .i64 (f x)]
set_option maxHeartbeats 4000000 in
set_option maxRecDepth 100000 in
theorem cheapestP_any (gf N C : Nat) (bnd lb : Array Value) (f : Int → Int) (L : List Int) (w : World) (hN : N ≤ w.heap.size) (hpos : ∀ x ∈ L, 0 ≤ x) (hgf : Enters gf)
    (hseq : ∀ w', Below w.heap.size w w' → SeqC Fence.wide 6 Tryz.prog gf bnd lb (encV f) (KpT N C) (· = L) (· <+: L) (fun pre x => pre ++ [x] <+: L) w') :
    Calls Tryz.prog 86 #[.func (.func gf) bnd lb] w fun e w' => e = .returned (.tuple #[.int .i64 (oI (bestL f L)).1, .int .i64 (oI (bestL f L)).2]) ∧ Below w.heap.size w w' := by
  have HPOS := Lib.hid hpos
  have HNN := Lib.hid hN
  have hb0 : Below w.heap.size w ((w.alloc (.cells #[.int .i64 (-1)] 3)).alloc (.cells #[.int .i64 0] 3)) := bAlloc (bAlloc (Below.refl _ _) _) _
  have HSEQ := Lib.hid (hseq _ hb0)
  have HB0 := Lib.hid hb0
  unfold Enters at hgf
  clear hseq hb0 hpos
  refine (callsIn_wide (n := 7)).1 ?_
  refine callsIn_of_wp_marks Tryz.func86 rfl trivial ?_ rfl
  simp only [Tryz.ntmps86, List.size_toArray, List.length_cons, List.length_nil, Nat.reduceAdd, Nat.reduceSub, Array.replicate_succ, Array.replicate_zero, List.push_toArray, List.append_toArray, List.nil_append, List.cons_append]
  gi_wp2
  refine wpIn_range_caps (gf := gf) (bnd := bnd) (lb := lb) rfl (by decide) rfl trivial hgf HSEQ.out (fun h k => h.trans k) (fun W l o o' hl ho hc => KpT.put (by have := HNN.out; simp at hl; omega) ho hc _) (fun _ => rfl)
    (fun pre W => Boxed W w.heap.size 3 (.int .i64 (bI (bestL f pre))) ∧ Boxed W (w.heap.size + 1) 3 (.int .i64 (lI f (bestL f pre))) ∧ Below w.heap.size w W)
    (fun c pre W => False)
    (OwnFrom.and ((boxed_own _ _ (fun pre => .int .i64 (bI (bestL f pre)))).from _) (OwnFrom.and ((boxed_own _ _ (fun pre => .int .i64 (lI f (bestL f pre)))).from _) (ownFrom_below (Nat.le_refl _) (by simp; omega))))
    (fun c _ _ _ _ hs _ _ => hs)
    ⟨?b1, ?b2, HB0.out⟩
    (fun x a' W => a' = { tmps := #[.func (.func gf) bnd lb, undef, .int .i64 0, .int .i64 0, .pointer (some ⟨w.heap.size, 0, none⟩), .pointer (some ⟨w.heap.size + 1, 0, none⟩), .int .i64 x, .int .i64 (f x), .func (.func gf) bnd lb, .int .i64 x, .int .i64 (f x), undef, undef, undef, undef, undef, undef, undef, undef, undef, undef, undef, undef], defers := [] })
    (fun x a' _ X Y row hs hg hr => hs) ?assign ?body ?done ?stop
  case b1 => exact (Boxed.new w _ _).alloc _
  case b2 =>
    have h2 := Boxed.new (w.alloc (.cells #[.int .i64 (-1)] 3)) 3 (.int .i64 0)
    rw [World.size_alloc] at h2
    exact h2
  case assign =>
    rintro l pre x W K hsz hI hK
    simp only [encV]
    gi_wp2
    exact hK _ _ (KeepsFrom.refl _ _) (KpT.refl _ _ _) hI rfl
  case body =>
    rintro l pre x a' W hsz ⟨hx1, hx2, hbel⟩ rfl hlen
    have HBL := Lib.hid hbel
    have HX1 := Lib.hid hx1
    have HX2 := Lib.hid hx2
    have hxx : 0 ≤ x := HPOS.out x (hlen.subset (List.mem_append_right _ (List.mem_singleton.2 rfl)))
    simp only [World.size_alloc] at hsz
    have y0 := hx1.cell
    have y1 := hx1.frozen
    have y2 := hx2.cell
    have y3 := hx2.frozen
    have z0 := hx1.lt
    have z1 := hx2.lt
    obtain ⟨b, hb⟩ : ∃ b, bestL f pre = b := ⟨_, rfl⟩
    have HB := Lib.hid hb
    have HNX := Lib.hid (show bestL f (pre ++ [x]) = stepB f b x by rw [bestL_snoc, hb])
    rw [hb] at y0 y2
    have store : ∀ (u v : Value), KpT N C W ((W.setCell ⟨w.heap.size, 0, none⟩ u).setCell ⟨w.heap.size + 1, 0, none⟩ v) ∧ (∀ M, KeepsFrom M W ((W.setCell ⟨w.heap.size, 0, none⟩ u).setCell ⟨w.heap.size + 1, 0, none⟩ v)) ∧ Boxed ((W.setCell ⟨w.heap.size, 0, none⟩ u).setCell ⟨w.heap.size + 1, 0, none⟩ v) w.heap.size 3 u ∧ Boxed ((W.setCell ⟨w.heap.size, 0, none⟩ u).setCell ⟨w.heap.size + 1, 0, none⟩ v) (w.heap.size + 1) 3 v ∧ Below w.heap.size w ((W.setCell ⟨w.heap.size, 0, none⟩ u).setCell ⟨w.heap.size + 1, 0, none⟩ v) := fun u v =>
      ⟨(KpT.set HNN.out HX1.out u).trans (KpT.set (by have := HNN.out; omega) (HX2.out.other (by omega) u) v), fun M => ((KeepsOthers.setCell _ _ _).from M).trans ((KeepsOthers.setCell _ _ _).from M), (HX1.out.set u).other (by omega) v, (HX2.out.other (by omega) u).set v, Below.setCell (p := ⟨w.heap.size + 1, 0, none⟩) (Below.setCell (p := ⟨w.heap.size, 0, none⟩) HBL.out (Nat.le_refl _) u) (Nat.le_succ _) v⟩
    have STO := Lib.hid store
    have HPRE := Lib.hid (show pre <+: L from (List.prefix_append _ _).trans hlen)
    clear hbel hx1 hx2 hlen hb store
    cases b with
    | none =>
      simp only [bI, lI] at y0 y2
      have HR := Lib.hid (show bestL f (pre ++ [x]) = some x from HNX.out)
      gi_wp2
      obtain ⟨s1, s2, s3, s4, s5⟩ := STO.out (.int .i64 x) (.int .i64 (f x))
      exact ⟨s2 _, s1, by rw [HR.out]; exact s3, by rw [HR.out]; exact s4, s5⟩
    | some c =>
      simp only [bI, lI] at y0 y2
      have hc : 0 ≤ c := HPOS.out c (HPRE.out.subset (bestL_mem HB.out))
      have g0 : ¬ c < 0 := by omega
      have g1 : decide (c < 0) = false := by simpa using g0
      by_cases hlt : f x < f c
      · have HR := Lib.hid (show bestL f (pre ++ [x]) = some x by rw [HNX.out]; unfold stepB; simp [hlt])
        have g2 : decide (f x < f c) = true := by simpa using hlt
        gi_wp2
        obtain ⟨s1, s2, s3, s4, s5⟩ := STO.out (.int .i64 x) (.int .i64 (f x))
        exact ⟨s2 _, s1, by rw [HR.out]; exact s3, by rw [HR.out]; exact s4, s5⟩
      · have HR := Lib.hid (show bestL f (pre ++ [x]) = some c by rw [HNX.out]; unfold stepB; simp [hlt])
        have g2 : decide (f x < f c) = false := by simpa using hlt
        gi_wp2
        refine ⟨KeepsFrom.refl _ _, KpT.refl _ _ _, ?_, ?_, HBL.out⟩
        · rw [HR.out, ← HB.out]; exact HX1.out
        · rw [HR.out, ← HB.out]; exact HX2.out
  case done =>
    rintro D xs W hD rfl ⟨hx1, hx2, hbel⟩ hK
    have HBL := Lib.hid hbel
    have y0 := hx1.cell
    have z0 := hx1.lt
    simp only [World.size_alloc] at hD
    clear hbel hx1 hx2
    obtain ⟨b, hb⟩ : ∃ b, bestL f xs = b := ⟨_, rfl⟩
    rw [hb] at y0
    have HB := Lib.hid hb
    clear hb
    cases b with
    | none =>
      simp only [bI] at y0
      gi_wp2
      refine ⟨by simp, .inl ⟨_, _, rfl, run_takeDeferred hK, ?_⟩⟩
      exact ⟨_, results_tmp2 rfl _ _ _, by rw [HB.out]; rfl, below_put HBL.out (by omega) (by omega) _⟩
    | some c =>
      simp only [bI] at y0
      have hc : 0 ≤ c := HPOS.out c (bestL_mem HB.out)
      have g0 : ¬ c < 0 := by omega
      have g1 : decide (c < 0) = false := by simpa using g0
      gi_wp2
      refine ⟨by simp, .inl ⟨_, _, rfl, run_takeDeferred hK, ?_⟩⟩
      exact ⟨_, results_tmp2 rfl _ _ _, by rw [HB.out]; rfl, below_put HBL.out (by omega) (by omega) _⟩
  case stop =>
    rintro D c pre W _ _ h _
    exact h.elim
end Go.Proofs.YthnojgdckkdcgaaGreatDoor

namespace Go.Proofs.YthnojgdckkdcgaaGreatDoor
open Go.RowKit Go.Sort Go.Shelf
attribute [local go_sem] Oper.semAt_some
theorem bestL_sel (f : Int → Int) (p : Nat → Bool) : ∀ n, bestL f (selTo p n) = (minBy (fun i => f (i : Int)) p n).map fun i => (i : Int)
  | 0 => rfl
  | n + 1 => by
    have ih := bestL_sel f p n
    conv => rhs; unfold minBy
    cases hp : p n
    · rw [selTo_f hp, ih]
      simp
    · rw [selTo_t hp, bestL_snoc, ih]
      cases hm : minBy (fun i => f (i : Int)) p n with
      | none => simp [stepB]
      | some b =>
        by_cases h : f (n : Int) < f (b : Int)
        · simp [stepB, h]
        · simp [stepB, h]
theorem oI_opt (o : Option Nat) : oI (o.map fun i => (i : Int)) = optOut o := by cases o <;> rfl
theorem best_sel (t : Pt) : oI (bestL (fun x => (t.cheap x.toNat).1) t.frees) = optOut t.best := by
  unfold Pt.frees Pt.best
  rw [bestL_sel, oI_opt]
  rfl
theorem sel_pos {p : Nat → Bool} {n : Nat} : ∀ x ∈ selTo p n, 0 ≤ x := fun x hx => by
  obtain ⟨i, _, _, rfl⟩ := selTo_mem.1 hx
  omega
set_option maxHeartbeats 4000000 in
set_option maxRecDepth 100000 in
theorem bestP_any (Aw Af Ao Ap As : Option Addr) (cw cf co cp cs : Nat) (t : Pt) (w : World) (hs : t.Small) (hT : PAt w Aw Af Ao Ap As t) (hB : TabAt w) (hN : NoneAt w) :
    Calls Tryz.prog 30 #[.agg #[.int .i64 t.q.wells, .slice Aw t.q.nw cw, .slice Af t.q.nf cf, .slice Ao t.no co, .slice Ap t.np cp, .slice As t.ns cs, .int .i64 t.far, .int .i64 t.harm, .int .i64 t.many]] w fun e w' => e = .returned (.tuple #[.int .i64 t.bestOut.1, .int .i64 t.bestOut.2]) ∧ Below w.heap.size w w' := by
  obtain ⟨er, her⟩ : ∃ v, t.knowErr true = v := ⟨_, rfl⟩
  have HE := Lib.hid (show t.bestOut = if er = 0 then optOut t.best else (0, er) by unfold Pt.bestOut; rw [her])
  have HER := Lib.hid her
  clear her
  have HD0 := Lib.hid (Below.refl w.heap.size w)
  have HSM := Lib.hid hs
  have HT0 := Lib.hid hT
  have HTB0 := Lib.hid hB
  have HNA0 := Lib.hid hN
  clear hs hT hB hN
  go_enter Tryz.func30, Tryz.ntmps30
  go_wp2_with fail
  refine (openP_any Aw Af Ao Ap As cw cf co cp cs t true _ HSM.out (HT0.out.mono (bAlloc (Below.refl _ _) (.cells #[.int .i64 t.q.wells, .slice Aw t.q.nw cw, .slice Af t.q.nf cf, .slice Ao t.no co, .slice Ap t.np cp, .slice As t.ns cs, .int .i64 t.far, .int .i64 t.harm, .int .i64 t.many] 62))) (HTB0.out.mono (bAlloc (Below.refl _ _) (.cells #[.int .i64 t.q.wells, .slice Aw t.q.nw cw, .slice Af t.q.nf cf, .slice Ao t.no co, .slice Ap t.np cp, .slice As t.ns cs, .int .i64 t.far, .int .i64 t.harm, .int .i64 t.many] 62)))).mono ?_
  rintro e w1 ⟨ho, hb⟩
  rw [HER.out] at ho
  have hB1 : Below w.heap.size w w1 := bTrans (bAlloc (Below.refl _ _) (.cells #[.int .i64 t.q.wells, .slice Aw t.q.nw cw, .slice Af t.q.nf cf, .slice Ao t.no co, .slice Ap t.np cp, .slice As t.ns cs, .int .i64 t.far, .int .i64 t.harm, .int .i64 t.many] 62)) hb
  have HD1 := Lib.hid (bTrans HD0.out hB1)
  have HT1 := Lib.hid (HT0.out.mono hB1)
  have HTB1 := Lib.hid (HTB0.out.mono hB1)
  have HNA1 := Lib.hid (HNA0.out.mono hB1)
  have T1 := Lib.hid (show TBox w1 w.heap.size 62 #[.int .i64 t.q.wells, .slice Aw t.q.nw cw, .slice Af t.q.nf cf, .slice Ao t.no co, .slice Ap t.np cp, .slice As t.ns cs, .int .i64 t.far, .int .i64 t.harm, .int .i64 t.many] from by have := ((TBox.new w #[.int .i64 t.q.wells, .slice Aw t.q.nw cw, .slice Af t.q.nf cf, .slice Ao t.no co, .slice Ap t.np cp, .slice As t.ns cs, .int .i64 t.far, .int .i64 t.harm, .int .i64 t.many] 62).mono (Below.refl _ _)).mono hb; simpa using this)
  clear hb hB1 HD0 HT0 HTB0 HNA0
  obtain ⟨T_0, T_1, T_2, T_3, T_4, T_5, T_6, T_7, T_8, T_l⟩ := T1.out.c9
  by_cases he : er = 0
  case neg =>
    obtain rfl := ho.1 he
    clear ho
    have g0 : (er != 0) = true := by simp [he]
    have HR := Lib.hid (show t.bestOut = (0, er) by rw [HE.out, if_neg he])
    clear he
    go_wp2_with fail
    go_ret2
    exact ⟨by rw [HR.out]; rfl, HD1.out⟩
  subst he
  obtain ⟨ok, _, _⟩ := Pt.knowErr_zero HER.out
  have HOK := Lib.hid ok
  obtain ⟨C, Al, cl, rfl, hst, hC⟩ := ho.2 rfl
  have HST := Lib.hid hst
  have HR := Lib.hid (show oI (bestL (fun x => (t.cheap x.toNat).1) t.frees) = t.bestOut by rw [best_sel, HE.out, if_pos rfl])
  clear ho ok hst hC
  go_wp2_with fail
  refine (cheapestP_any 85 w1.heap.size C #[.pointer (some ⟨C, 0, none⟩)] #[] (fun x => (t.cheap x.toNat).1) t.frees w1 (Nat.le_refl _) sel_pos (enters_of Tryz.func85 (by kernel_rfl)) (fun w' hb => SeqC.weaken (fun _ _ h => h.1) (free_seq 6 C Aw Af Ao Ap As cw cf co cp cs t Al cl w1 w' (by decide) HST.out HNA1.out hb HOK.out HSM.out))).mono ?_
  rintro e w2 ⟨rfl, hb⟩
  rw [HR.out]
  have hB2 : Below w1.heap.size w1 w2 := bTrans (Below.refl _ _) hb
  have HD2 := Lib.hid (bTrans HD1.out hB2)
  have HT2 := Lib.hid (HT1.out.mono hB2)
  have HTB2 := Lib.hid (HTB1.out.mono hB2)
  have HNA2 := Lib.hid (HNA1.out.mono hB2)
  have T2 := Lib.hid (T1.out.mono hB2)
  clear hb hB2 HD1 HT1 HTB1 HNA1 T1 T_0 T_1 T_2 T_3 T_4 T_5 T_6 T_7 T_8 T_l
  obtain ⟨T_0, T_1, T_2, T_3, T_4, T_5, T_6, T_7, T_8, T_l⟩ := T2.out.c9
  go_wp2_with fail
  go_ret2
  exact ⟨rfl, HD2.out⟩
set_option maxHeartbeats 8000000 in
set_option maxRecDepth 100000 in
theorem freeP_any (Aw Af Ao Ap As : Option Addr) (cw cf co cp cs : Nat) (t : Pt) (w : World) (hs : t.Small) (hT : PAt w Aw Af Ao Ap As t) (hB : TabAt w) (hN : NoneAt w) :
    Calls Tryz.prog 29 #[.agg #[.int .i64 t.q.wells, .slice Aw t.q.nw cw, .slice Af t.q.nf cf, .slice Ao t.no co, .slice Ap t.np cp, .slice As t.ns cs, .int .i64 t.far, .int .i64 t.harm, .int .i64 t.many]] w fun e w' => NumsOut w' w.heap.size (t.knowErr true) t.frees e ∧ Below w.heap.size w w' := by
  have hb0 := bAlloc (Below.refl w.heap.size w) (.cells #[.int .i64 t.q.wells, .slice Aw t.q.nw cw, .slice Af t.q.nf cf, .slice Ao t.no co, .slice Ap t.np cp, .slice As t.ns cs, .int .i64 t.far, .int .i64 t.harm, .int .i64 t.many] 62)
  have HT := Lib.hid (hT.mono hb0)
  have HTB := Lib.hid (hB.mono hb0)
  have HNA := Lib.hid (hN.mono hb0)
  have HB0 := Lib.hid hb0
  have HSM := Lib.hid hs
  obtain ⟨er, her⟩ : ∃ v, t.knowErr true = v := ⟨_, rfl⟩
  have HER := Lib.hid her
  rw [her]
  clear hs hT hB hN hb0 her
  refine (callsIn_wide (n := 7)).1 ?_
  refine callsIn_of_wp_marks Tryz.func29 rfl trivial ?_ rfl
  simp only [Tryz.ntmps29, List.size_toArray, List.length_cons, List.length_nil, Nat.reduceAdd, Nat.reduceSub, Array.replicate_succ, Array.replicate_zero, List.push_toArray, List.append_toArray, List.nil_append, List.cons_append]
  gi_wp2
  refine ⟨trivial, (callsIn_wide.2 (openP_any Aw Af Ao Ap As cw cf co cp cs t true _ HSM.out HT.out HTB.out)).mono ?_⟩
  rintro e w1 ⟨ho, hb1⟩
  rw [HER.out] at ho
  have HB1 := Lib.hid (bTrans HB0.out hb1)
  have hz1 := hb1.size
  simp only [World.size_alloc] at hz1
  by_cases he : er = 0
  case neg =>
    obtain rfl := ho.1 he
    have g0 : (er != 0) = true := by simp [he]
    have HZ := Lib.hid he
    clear ho he hb1
    gi_wp2
    exact ⟨_, results_tmp2 rfl _ _ _, ⟨fun h => absurd h HZ.out, fun _ => rfl⟩, HB1.out⟩
  subst he
  obtain ⟨ok, _, _⟩ := Pt.knowErr_zero HER.out
  obtain ⟨C, Al, cl, rfl, hst, _⟩ := ho.2 rfl
  have HNA1 := Lib.hid (HNA.out.mono hb1)
  have hb2 : Below w1.heap.size w1 (w1.alloc (.cells #[.slice none 0 0] 34)) := bAlloc (Below.refl _ _) _
  have HSEQ := Lib.hid (free_seq 6 C Aw Af Ao Ap As cw cf co cp cs t Al cl w1 (w1.alloc (.cells #[.slice none 0 0] 34)) (by decide) hst HNA1.out hb2 ok HSM.out)
  have HB2 := Lib.hid hb2
  have hlen : t.frees.length ≤ 100 := by
    have := selTo_len t.freeB t.ns
    have := ok.ns
    unfold Pt.frees
    omega
  have HLEN := Lib.hid hlen
  clear ho hst ok hb2 hlen hb1
  gi_wp2
  refine wpIn_range_caps (gf := 85) (bnd := #[.pointer (some ⟨C, 0, none⟩)]) (lb := #[]) rfl (by decide) rfl trivial (enters_of Tryz.func85 (by kernel_rfl)) HSEQ.out below_chain (fun W l o o' hl _ _ => below_putB (Below.refl _ _) (by simp at hl; omega) _) (fun _ => rfl)
    (fun pre W => (∃ v, Boxed W w1.heap.size 34 v ∧ W.ownsRow (w1.heap.size + 1) 3 1 v pre.length (intE.cells pre) ∧ True) ∧ Below w1.heap.size w1 W)
    (fun c pre W => False)
    (OwnFrom.and (Own.from (holdsRow_own (w1.heap.size + 1) w1.heap.size 34 3 1 List.length intE.cells (fun _ _ => True)) _) (ownFrom_below (Nat.le_refl _) (by simp)))
    (fun c _ _ _ _ hs _ _ => hs)
    ⟨⟨_, Boxed.new w1 _ _, World.ownsRow_nil _ _ _ _, trivial⟩, HB2.out⟩
    (fun x a' W => ∃ u0 u1 u2 u3 u4 u5 u8 u9 u10 u11 u12 u13 u14 u15 u16 u17 u18 u19 u20 u21 u22 u23 u24, a' = { tmps := #[u0, u1, u2, u3, u4, u5, .pointer (some ⟨w1.heap.size, 0, none⟩), .int .i64 x, u8, u9, u10, u11, u12, u13, u14, u15, u16, u17, u18, u19, u20, u21, u22, u23, u24], defers := [] })
    (fun x a' _ X Y row hs hg hr => hs) ?assign ?body ?done ?stop
  case assign =>
    rintro l pre x W K hsz hI hK
    simp only [encF]
    gi_wp2
    exact hK _ _ (KeepsFrom.refl _ _) (Below.refl _ _) hI ⟨_, _, _, _, _, _, _, _, _, _, _, _, _, _, _, _, _, _, _, _, _, _, _, rfl⟩
  case body =>
    rintro l pre x a' W hsz ⟨⟨v, hv, hrow, _⟩, hbel⟩ ⟨u0, u1, u2, u3, u4, u5, u8, u9, u10, u11, u12, u13, u14, u15, u16, u17, u18, u19, u20, u21, u22, u23, u24, rfl⟩ hlen
    have HBL := Lib.hid hbel
    have HV := Lib.hid hv
    have HR := Lib.hid (show OwnE intE W (w1.heap.size + 1) v pre from hrow)
    have hpl : pre.length ≤ 100 := by
      have h1 := hlen.length_le
      rw [List.length_append] at h1
      have := HLEN.out
      omega
    have y0 := hv.cell
    have y1 := hv.frozen
    have z0 := hv.lt
    simp only [World.size_alloc] at hsz
    clear hbel hrow hlen hv
    gi_wp2_with (gi_at_builtin; refine wpListIn_snocE intG _ rfl (Operand.tmp 20) (Operand.tmp 22) rfl (w1.heap.size + 1) v pre x rfl ?q1 W.heap.size rfl ?q2 ?q3 ?q4 ?_)
    case q1 => exact HR.out.mono (bAlloc (Below.refl _ _) _)
    case q2 =>
      intro a u hu
      match a, hu with
      | 0, hu =>
        obtain rfl : Value.int .i64 x = u := by simpa [intE] using hu
        simp [go_sem]
    case q3 => omega
    case q4 => simp; omega
    intro v' w5 hown5 hb5 hg5
    have HB5 := Lib.hid (hb5 w1.heap.size w1 (by omega) (bAlloc HBL.out _))
    have hrowA : World.ownsRow (W.alloc (.cells #[.int .i64 x] 3)) (w1.heap.size + 1) 3 1 v pre.length (intE.cells pre) := owns_below HR.out (bAlloc (Below.refl _ _) _)
    have hv5 := (HV.out.alloc (.cells #[.int .i64 x] 3)).kept hg5 (Boxed.not_row (e := 3) (HV.out.alloc _) (by decide) hrowA)
    clear hrowA
    obtain ⟨g5, c5, rfl⟩ := owns_some hown5 (by simp)
    obtain ⟨n5, hn5⟩ : ∃ n5, (pre ++ [x]).length = n5 := ⟨_, rfl⟩
    rw [hn5] at hown5 ⊢
    clear hn5
    have HV5 := Lib.hid hv5
    have HO5 := Lib.hid hown5
    have HG5 := Lib.hid hg5
    have y5 := hv5.cell
    have y6 := hv5.frozen
    have z5 := hv5.lt
    have hz5 := hg5.size
    simp only [World.size_alloc] at hz5
    clear hb5 hg5 hv5 hown5 y0 y1
    gi_wp2
    have hbN : Below w1.heap.size w1 (w5.setCell ⟨w1.heap.size, 0, none⟩ (.slice (some ⟨g5, 0, none⟩) n5 c5)) := Below.setCell (p := ⟨w1.heap.size, 0, none⟩) HB5.out (Nat.le_refl _) _
    refine ⟨?_, ⟨hbN.os.trans HBL.out.os.symm, hbN.tape.trans HBL.out.tape.symm, hbN.output.trans HBL.out.output.symm, by simp [World.setCell]; omega, fun k hk => (hbN.block k hk).trans (HBL.out.block k hk).symm⟩, ⟨⟨_, HV5.out.set _, HO5.out.set (b := w1.heap.size) (by omega) 0 _, trivial⟩, hbN⟩⟩
    refine ((keeps_below (bAlloc (Below.refl W.heap.size W) _)).trans ((KeepsOthers.of_grownBy HG5.out fun r ob e hob => ?_).from _)).trans ((KeepsOthers.setCell _ _ _).from _)
    obtain ⟨_, cur, hcur⟩ := owns_typed (owns_below HR.out (bAlloc (Below.refl _ _) (.cells #[.int .i64 x] 3))) r e
    rw [hcur] at hob
    injection hob with hob
    rw [← hob]
    rfl
  case done =>
    rintro D xs W hD hxs ⟨⟨v, hv, hrow, _⟩, hbel⟩ hK
    have HBL := Lib.hid hbel
    have HV := Lib.hid hv
    have HR := Lib.hid (show W.ownsRow (w1.heap.size + 1) 3 1 v t.frees.length (numL t.frees) by rw [← intE_cells, ← hxs]; exact hrow)
    have y0 := hv.cell
    clear hbel hv hrow hxs
    gi_wp2
    refine ⟨by simp, .inl ⟨_, _, rfl, run_takeDeferred hK, ?_⟩⟩
    simp only [World.size_alloc] at hD
    exact ⟨_, results_tmp2 rfl _ _ _, ⟨fun _ => ⟨v, rfl, owns_lower (ownsRow_putObj HR.out _ hK rfl) (by omega)⟩, fun h => absurd rfl h⟩, bTrans HB1.out (below_put HBL.out (by have := HV.out.lt; omega) (by omega) _)⟩
  case stop =>
    rintro D c pre W _ _ h _
    exact h.elim
end Go.Proofs.YthnojgdckkdcgaaGreatDoor

namespace Go.Proofs.YthnojgdckkdcgaaGreatDoor
open Go.RowKit Go.Sort Go.Shelf
section
variable {P : Program} {ops : Array Oper} {md : Region.Mode} {F : Fence} {k : Nat}
theorem wpIn_region_stir {rid : Nat} {Q : Exit → Act → World → Prop} {a : Act} {w : World} {l : List Oper} (hF : Open F P) (n : Nat) (hs : List Stir) (hm : P.follows .mixedOrders = true) (hB : (stirB .any l.toArray n && noDefer l.toArray) = true) (hn : hs.length = n) (hg : goodAllS hs) (hx : crossAll .any l.toArray w.heap.size hs)
    (h : wpStir P .any l.toArray w (fun a' w' => wpListIn F k P l.toArray Q (l.drop n) a' w') 0 l hs a []) : (Code.region rid l.toArray true).wpIn F k P Q a w := by
  rw [Bool.and_eq_true] at hB
  obtain ⟨hB, hnd⟩ := hB
  unfold stirB at hB
  simp only [Bool.and_eq_true, decide_eq_true_eq, List.all_eq_true, List.mem_range, Bool.or_eq_true] at hB
  obtain ⟨⟨hord, hnl⟩, htail⟩ := hB
  have H := ordered_of hord
  have hsz : l.toArray.size = l.length := by simp
  have key : ∀ V : Nat → Value, (∀ (k : Nat) (h : Stir), hs[k]? = some h → h.sh (V k)) → _ := fun V hV =>
    wpStir_at (P := P) (md := .any) (ops := l.toArray) (W := w) (Q := fun a' w' => wpListIn F k P l.toArray Q (l.drop n) a' w') (a0 := a) hV hs 0 l (fun j => by simp) (fun j => by simp) (by omega) h
  have hwit : ∃ V : Nat → Value, ∀ (k : Nat) (h : Stir), hs[k]? = some h → h.sh (V k) := by
    have hx : ∀ k : Nat, ∃ v : Value, ∀ h : Stir, hs[k]? = some h → h.sh v := fun k => by
      cases e : hs[k]? with
      | none => exact ⟨undef, fun h hh => by cases hh⟩
      | some h =>
        obtain ⟨v, hv⟩ := Stir.some (goodAllS_at hg e)
        exact ⟨v, fun h' hh => by injection hh with hh; subst hh; exact hv⟩
    exact ⟨fun k => (hx k).choose, fun k => (hx k).choose_spec⟩
  have final : ∀ (V : Nat → Value) (listed : Array Bool) (w' : World), (∀ (k : Nat) (h : Stir), hs[k]? = some h → h.sh (V k)) → Below w.heap.size w w' → (∀ j, j < n → listed.getD j false = true) → (∀ j, n ≤ j → listed.getD j false = false) → (∀ (j : Nat) (h : Stir), hs[j]? = some h → h.r w' (V j)) →
      wpListIn F k P l.toArray Q (l.drop n) (frameOf l.toArray V (fun k => listed.getD k false) a l.toArray.size) w' := by
    intro V listed w' hV hb hall hno hr
    obtain ⟨p, rfl⟩ := regrown_of_below hb
    have := (key V hV).2 p (allS_all _ fun j h hj hjh => hr j h hjh)
    rw [hn] at this
    have e1 : frameOf l.toArray V (fun k => listed.getD k false) a n = frameOf l.toArray V (fun _ => true) a n := frameOf_congr n fun j hj => ⟨hall j hj, fun _ => rfl⟩
    have e2 : ∀ m, n ≤ m → frameOf l.toArray V (fun k => listed.getD k false) a m = frameOf l.toArray V (fun k => listed.getD k false) a n := by
      intro m
      induction m with
      | zero => intro hm'; obtain rfl : n = 0 := by omega
                rfl
      | succ m ih =>
        intro hm'
        rcases Nat.eq_or_lt_of_le hm' with e | e
        · rw [e]
        · rw [frameOf, ih (by omega), if_neg]; rw [hno m (by omega)]; exact Bool.false_ne_true
    rw [e2 _ hnl, e1]
    exact this
  refine wpIn_region_any hm ?_
  refine wpAnyIn_inv (fun listed a' w' => ((∀ j, n ≤ j → listed.getD j false = false) ∧ ∃ V : Nat → Value, (∀ (k : Nat) (h : Stir), hs[k]? = some h → h.sh (V k)) ∧ a' = frameOf l.toArray V (fun k => listed.getD k false) a l.toArray.size ∧ Below w.heap.size w w' ∧ ∀ (j : Nat) (h : Stir), hs[j]? = some h → listed.getD j false = true → h.r w' (V j)) ∨
      ∃ m, n ≤ m ∧ (∀ j, j < m → listed.getD j false = true) ∧ (∀ j, m ≤ j → listed.getD j false = false) ∧ wpListIn F k P l.toArray Q (l.drop m) a' w') ?_ ?_ _ _ _ _ (left_le _ _) Shut.none (.inl ⟨fun j _ => ?_, ?_⟩)
  · intro listed a' w' i hsh hI hr
    obtain ⟨hun, oi, hoi, _⟩ := mem_ready.1 hr
    have hi : i < l.toArray.size := (Array.getElem?_eq_some_iff.1 hoi).1
    have hil : i < listed.size := by rw [hsh.size]; exact hi
    have hunf := listed_both hun
    have hset : (listed.setIfInBounds i true).getD i false = true := set_same hil false
    have tailstep : ∀ m, n ≤ m → (∀ j, j < m → listed.getD j false = true) → (∀ j, m ≤ j → listed.getD j false = false) → n ≤ i → wpListIn F k P l.toArray Q (l.drop m) a' w' →
        wpOpIn F k P l.toArray Q i (fun a'' w'' => ((∀ j, n ≤ j → (listed.setIfInBounds i true).getD j false = false) ∧ ∃ V : Nat → Value, (∀ (k : Nat) (h : Stir), hs[k]? = some h → h.sh (V k)) ∧ a'' = frameOf l.toArray V (fun k => (listed.setIfInBounds i true).getD k false) a l.toArray.size ∧ Below w.heap.size w w'' ∧ ∀ (j : Nat) (h : Stir), hs[j]? = some h → (listed.setIfInBounds i true).getD j false = true → h.r w'' (V j)) ∨
          ∃ m, n ≤ m ∧ (∀ j, j < m → (listed.setIfInBounds i true).getD j false = true) ∧ (∀ j, m ≤ j → (listed.setIfInBounds i true).getD j false = false) ∧ wpListIn F k P l.toArray Q (l.drop m) a'' w'') a' w' := by
      intro m hnk hall hno hni hw
      have him : i = m := by
        rcases Nat.lt_trichotomy i m with h' | h' | h'
        · rw [hall i h'] at hunf; cases hunf
        · exact h'
        · have h1 := ((htail i hi).resolve_left (by omega)) m h'
          have h2 := reach_listed hsh 6 i m (fun j hj => waits_listed hr hj) h1
          rw [hno m (Nat.le_refl _)] at h2; cases h2
      subst him
      have hli : l[i]? = some oi := by simpa using hoi
      have hdrop : l.drop i = oi :: l.drop (i + 1) := by
        have hlt : i < l.length := by omega
        rw [List.drop_eq_getElem_cons hlt]
        congr 1
        rw [List.getElem?_eq_getElem hlt] at hli
        exact Option.some.inj hli
      rw [hdrop] at hw
      simp only [wpListIn] at hw
      have hall' : ∀ j, j < i + 1 → (listed.setIfInBounds i true).getD j false = true := fun j hj => by
        rcases Nat.lt_or_ge j i with h' | h'
        · rw [getD_set_ne false (by omega)]; exact hall j h'
        · obtain rfl : j = i := by omega
          exact hset
      have hno' : ∀ j, i + 1 ≤ j → (listed.setIfInBounds i true).getD j false = false := fun j hj => by
        rw [getD_set_ne false (by omega)]; exact hno j (by omega)
      unfold Go.wpOpIn
      simp only [hoi]
      split
      · rename_i hwt
        rw [if_pos hwt] at hw
        exact Oper.wpIn_mono (fun a'' w'' h'' => .inr ⟨i + 1, by omega, hall', hno', h''⟩) hw
      · rename_i hwt
        rw [if_neg hwt] at hw
        exact ⟨fun f _ => hF.fn f, .inr ⟨i + 1, by omega, hall', hno', by first | exact hw.2 | exact hw⟩⟩
    rcases hI with ⟨hno, V, hV, rfl, hb, hrr⟩ | ⟨m, hnm, hall, hno, hw⟩
    · rcases Nat.lt_or_ge i n with hin | hin
      · -- an operation of the first part
        refine wpOpIn_mono (fun _ _ h => .inl h) ?_
        have hx' : ∃ h, hs[i]? = some h := ⟨hs[i]'(by omega), by simp⟩
        obtain ⟨hh, hhi⟩ := hx'
        obtain ⟨o', ho', hask⟩ := (key V hV).1 i hh (Nat.zero_le _) hhi
        obtain rfl : oi = o' := Option.some.inj (hoi.symm.trans ho')
        have hsee := H.sees (V := V) (V' := V) (M := fun _ => true) (a := a) hsh hoi hr (fun k _ hk => by cases hk) (fun _ _ => rfl)
        have hput : ∀ v, (frameOf l.toArray V (fun k => listed.getD k false) a l.toArray.size).put oi.dst v = frameOf l.toArray (fun k => if k = i then v else V k) (fun k => (listed.setIfInBounds i true).getD k false) a l.toArray.size := fun v => by
          have e1 : dstOf l.toArray i = oi.dst := by simp [dstOf, hoi]
          rw [H.frame_put hsh hi hun, e1, if_pos rfl]
          congr 1
          exact frameOf_congr _ fun j _ => ⟨rfl, fun hj => by rw [if_neg (fun e => by subst e; rw [hunf] at hj; cases hj)]⟩
        have hnext : ∀ v w'', Below w.heap.size w' w'' → (∀ (j : Nat) (h : Stir), hs[j]? = some h → j ≠ i → listed.getD j false = true → h.r w' (V j) → h.r w'' (V j)) → hh.r w'' v → ((∀ j, n ≤ j → (listed.setIfInBounds i true).getD j false = false) ∧ ∃ V' : Nat → Value, (∀ (k : Nat) (h : Stir), hs[k]? = some h → h.sh (V' k)) ∧ (frameOf l.toArray V (fun k => listed.getD k false) a l.toArray.size).put oi.dst v = frameOf l.toArray V' (fun k => (listed.setIfInBounds i true).getD k false) a l.toArray.size ∧ Below w.heap.size w w'' ∧ ∀ (j : Nat) (h : Stir), hs[j]? = some h → (listed.setIfInBounds i true).getD j false = true → h.r w'' (V' j)) := by
          intro v w'' hb' hkeep hrv
          refine ⟨fun j hj => by rw [getD_set_ne false (by omega)]; exact hno j hj, fun k => if k = i then v else V k, fun k h hk => ?_, hput v, hb.trans hb', fun j h hjh hj => ?_⟩
          · by_cases e : k = i
            · subst e
              obtain rfl : hh = h := Option.some.inj (hhi.symm.trans hk)
              simp only [if_true]
              exact Stir.r_sh hrv
            · simp only [if_neg e]; exact hV k h hk
          · by_cases e : j = i
            · subst e
              obtain rfl : hh = h := Option.some.inj (hhi.symm.trans hjh)
              simp only [if_true]
              exact hrv
            · simp only [if_neg e]
              rw [getD_set_ne false (Ne.symm e)] at hj
              exact hkeep j h hjh e hj (hrr j h hjh hj)
        unfold Go.wpOpIn
        simp only [hoi]
        rw [wanted_of_slots hsee]
        unfold Oper.stirAsk at hask
        by_cases hwt : Region.wanted oi (yielded l.toArray (frameOf l.toArray V (fun _ => true) a i).tmps) = true
        · rw [if_pos hwt] at hask
          rw [if_pos hwt]
          obtain ⟨p, rfl⟩ := regrown_of_below hb
          have h1 := hask p (depsS_all _ fun j h hj hjh hw => hrr j h hjh (waits_listed hr hw))
          have hst : ∀ v w'', hh.K (grow (redrawn w p.d) p.os) w'' → hh.r w'' v → _ := fun v w'' hk hrv => hnext v w'' (by
            cases hh with
            | const c => exact (show Below _ _ _ from hk).mono hb.size
            | held s r => exact (show Below _ _ _ from hk).mono hb.size
            | stir s r K => exact (hx i s r K hhi).1 _ _ hb.size hk) (fun j h hjh hji hj hr1 => by
            cases hh with
            | const c => exact Stir.r_mono (goodAllS_at hg hjh) hk hr1
            | held s r => exact Stir.r_mono (goodAllS_at hg hjh) hk hr1
            | stir s r K =>
              rcases (hx i s r K hhi).2 j h hjh hji with h1 | h1
              · have h2 := reach_listed2 hsh 6 j i hj h1
                rw [hunf] at h2
                cases h2
              · exact h1 _ _ _ hk hr1) hrv
          refine wpIn_of_stir hF (noDefer_spec hnd hoi) (S := hh.K) (r := hh.r) ?_ fun v w'' hb' hrv => hst v w'' hb' hrv
          unfold Oper.stirAt at h1 ⊢
          rwa [exec_of_slots (ops := l.toArray) (fun cs b => Region.noSelect_spec H.sel i oi cs b hoi) hsee]
        · rw [if_neg hwt] at hask
          rw [if_neg hwt]
          exact ⟨fun f _ => hF.fn f, hnext undef w' (Below.refl _ _) (fun j h _ _ _ h1 => h1) (hask _)⟩
      · have hall : ∀ j, j < n → listed.getD j false = true := fun j hj => reach_listed hsh 6 i j (fun k hk => waits_listed hr hk) (((htail i hi).resolve_left (by omega)) j (by omega))
        exact tailstep n (Nat.le_refl _) hall hno hin (final V listed w' hV hb hall hno fun j h hjh => hrr j h hjh (hall j (by rw [← hn]; exact (List.getElem?_eq_some_iff.1 hjh).1)))
    · have hni : n ≤ i := by
        rcases Nat.lt_or_ge i n with h' | h'
        · rw [hall i (by omega)] at hunf; cases hunf
        · exact h'
      exact tailstep m hnm hall hno hni hw
  · intro listed a' w' hsh hI hr
    have hall := H.all hsh hr
    rcases hI with ⟨hno, V, hV, rfl, hb, hrr⟩ | ⟨m, hnm, hall', hno, hw⟩
    · have hnn : n = l.length := by
        rcases Nat.lt_or_ge n l.length with h' | h'
        · have := hall n (by omega); rw [hno n (Nat.le_refl _)] at this; cases this
        · omega
      have hall2 : ∀ j, j < n → listed.getD j false = true := fun j hj => hall j (by omega)
      have := final V listed w' hV hb hall2 hno fun j h hjh => hrr j h hjh (hall2 j (by rw [← hn]; exact (List.getElem?_eq_some_iff.1 hjh).1))
      rw [hnn, List.drop_length] at this
      exact this
    · have hmm : l.length ≤ m := by
        rcases Nat.lt_or_ge m l.length with h' | h'
        · have := hall m (by omega); rw [hno m (Nat.le_refl _)] at this; cases this
        · exact h'
      rw [List.drop_eq_nil_of_le hmm] at hw
      exact hw
  · rcases Nat.lt_or_ge j l.length with h' | h' <;> simp [h']
  · obtain ⟨V, hV⟩ := hwit
    refine ⟨V, hV, ?_, (Below.refl _ _).drew, fun j h _ hj => ?_⟩
    · symm
      refine frameOf_none (fun k => ?_) _
      rcases Nat.lt_or_ge k l.length with h' | h' <;> simp [h']
    · rcases Nat.lt_or_ge j l.length with h' | h' <;> simp [h'] at hj
end
end Go.Proofs.YthnojgdckkdcgaaGreatDoor

