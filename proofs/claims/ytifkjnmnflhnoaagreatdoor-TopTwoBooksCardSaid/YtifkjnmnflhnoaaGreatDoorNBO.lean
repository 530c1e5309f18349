/- Parts joined: what all claims of this seat need. -/
import Derived.Test.YtifkjnmnflhnoaaGreatDoorNBI
import Derived.Test.YtifkjnmnflhnoaaGreatDoorNBL
import Derived.Test.YtifkjnmnflhnoaaGreatDoorNBN
set_option linter.unusedSimpArgs false
set_option linter.unusedVariables false
namespace Go.Proofs.YtifkjnmnflhnoaaGreatDoor
open Go.RowKit Go.Sort
attribute [local go_sem] Oper.semAt_some
def RowI (w : World) (r : Nat) (a b : Int) : Prop := ∃ cur, TBox w r 3 cur ∧ cur[0]? = some (.int .i64 a) ∧ cur[1]? = some (.int .i64 b)
theorem RowI.mono {w w' : World} {r : Nat} {a b : Int} (h : RowI w r a b) (hb : Below w.heap.size w w') : RowI w' r a b := by
  obtain ⟨cur, h1, h2⟩ := h
  exact ⟨cur, h1.mono hb, h2⟩
theorem RowI.kept {w w' : World} {r : Nat} {a b : Int} (h : RowI w r a b) (hk : Kept [3] w w') : RowI w' r a b := by
  obtain ⟨cur, h1, h2⟩ := h
  exact ⟨cur, h1.kept hk (by simp), h2⟩
theorem RowI.c {w : World} {r : Nat} {a b : Int} (h : RowI w r a b) : w.cell? ⟨r, 0, none⟩ = some (.int .i64 a) ∧ w.cell? ⟨r, 1, none⟩ = some (.int .i64 b) ∧ r < w.heap.size ∧ w.frozen? ⟨r, 0, none⟩ = false ∧ w.frozen? ⟨r, 1, none⟩ = false := by
  obtain ⟨cur, h1, h2, h3⟩ := h
  exact ⟨(h1.cell 0).trans h2, (h1.cell 1).trans h3, h1.lt, h1.frozen 0, h1.frozen 1⟩
theorem RowI.set0 {w : World} {r : Nat} {a b : Int} (h : RowI w r a b) (v : Int) : RowI (w.setCell ⟨r, 0, none⟩ (.int .i64 v)) r v b := by
  obtain ⟨cur, h1, h2, h3⟩ := h
  refine ⟨_, h1.set 0 _, ?_, ?_⟩
  · have := (Array.getElem?_eq_some_iff.1 h2).1
    rw [Array.getElem?_setIfInBounds_self_of_lt this]
  · rw [Array.getElem?_setIfInBounds_ne (by decide)]
    exact h3
theorem RowI.set1 {w : World} {r : Nat} {a b : Int} (h : RowI w r a b) (v : Int) : RowI (w.setCell ⟨r, 1, none⟩ (.int .i64 v)) r a v := by
  obtain ⟨cur, h1, h2, h3⟩ := h
  refine ⟨_, h1.set 1 _, ?_, ?_⟩
  · rw [Array.getElem?_setIfInBounds_ne (by decide)]
    exact h2
  · have := (Array.getElem?_eq_some_iff.1 h3).1
    rw [Array.getElem?_setIfInBounds_self_of_lt this]
theorem RowI.other {w : World} {r b' : Nat} {a b : Int} (h : RowI w r a b) (hne : b' ≠ r) (o : Nat) (u : Value) : RowI (w.setCell ⟨b', o, none⟩ u) r a b := by
  obtain ⟨cur, h1, h2⟩ := h
  exact ⟨cur, h1.other hne o u, h2⟩
theorem rowI_made {w w' : World} {base c : Nat} (h : w'.ownsRow base 3 1 (.slice (some ⟨w.heap.size, 0, none⟩) 2 c) 2 (madeCells (Value.cells (.int .i64 0)) (2 * 1)).toList) : RowI w' w.heap.size 0 0 := by
  obtain ⟨_, cur, hb, hc⟩ := owns_box h
  have h0 := congrArg (·[0]?) hc
  have h1 := congrArg (·[1]?) hc
  refine ⟨cur, hb, ?_, ?_⟩
  · simpa [madeCells, Value.cells] using h0
  · simpa [madeCells, Value.cells] using h1
def KpB (lb r : Nat) (A B : World) : Prop := (∀ cs, TBox A lb 34 cs → TBox B lb 34 cs) ∧ ((∃ a b, RowI A r a b) → ∃ a b, RowI B r a b)
theorem KpB.trans {lb r : Nat} {A B C : World} (h : KpB lb r A B) (k : KpB lb r B C) : KpB lb r A C := ⟨fun cs x => k.1 cs (h.1 cs x), fun x => k.2 (h.2 x)⟩
theorem KpB.refl (lb r : Nat) (A : World) : KpB lb r A A := ⟨fun _ x => x, fun x => x⟩
theorem KpB.put {lb r : Nat} {W : World} {l : Nat} {o : Obj} (hl : W.heap[l]? = some o) (ho : o.isCells = false) (o' : Obj) : KpB lb r W (W.putObj l o') := by
  have key : ∀ b cs t, TBox W b t cs → TBox (W.putObj l o') b t cs := fun b cs t h => (World.putObj_heap_other (fun e => by
    subst e
    unfold TBox at h
    rw [hl] at h
    cases h
    cases ho)).trans h
  exact ⟨fun cs h => key _ _ _ h, fun ⟨a, b, cur, h1, h2⟩ => ⟨a, b, cur, key _ _ _ h1, h2⟩⟩
def encB (x : Int × Int) : Array Value := #[.int .i64 x.1, .int .i64 x.2]
def ixB : Nat → Int
  | 0 => 1
  | 1 => 0
  | _ => -1
def tenP : Nat → Int
  | 0 => 1
  | 1 => 10
  | _ => 100
theorem tenP_step {j : Nat} (h : j < 2) : IntKind.i64.wrap (tenP j * 10) = tenP (j + 1) := by
  rcases (by omega : j = 0 ∨ j = 1) with rfl | rfl <;> decide
set_option maxHeartbeats 4000000 in
set_option maxRecDepth 100000 in
theorem back_any (r : Nat) (w : World) :
    Calls Tryz.prog 47 #[.slice (some ⟨r, 0, none⟩) 2 2] w fun e w' => (e = .returned (.func (.func 66) #[] #[.pointer (some ⟨w.heap.size, 0, none⟩)]) ∧ TBox w' w.heap.size 34 #[.slice (some ⟨r, 0, none⟩) 2 2]) ∧ Below w.heap.size w w' := by
  have HB := Lib.hid (TBox.new w #[.slice (some ⟨r, 0, none⟩) 2 2] 34)
  have HD0 := Lib.hid (Below.refl w.heap.size w)
  go_enter Tryz.func47, Tryz.ntmps47
  go_wp2_with fail
  go_ret
  exact ⟨⟨rfl, HB.out⟩, (bTrans HD0.out (bAlloc (Below.refl _ _) (.cells #[.slice (some ⟨r, 0, none⟩) 2 2] 34)))⟩
set_option maxHeartbeats 4000000 in
set_option maxRecDepth 100000 in
theorem back_seq (n lb r : Nat) (w : World) (hb : TBox w lb 34 #[.slice (some ⟨r, 0, none⟩) 2 2]) (hr : ∃ a b, RowI w r a b) :
    SeqM Fence.wide n Tryz.prog 66 #[] #[.pointer (some ⟨lb, 0, none⟩)] encB (KpB lb r) (fun xs => xs.length = 2) (fun pre x W => pre.length < 2 ∧ x.1 = ixB pre.length) w := by
  intro l J W hW hJ hY h0
  refine callsIn_wide.2 ?_
  rw [show (#[] ++ #[.func (.yield l) #[] #[]] ++ #[.pointer (some ⟨lb, 0, none⟩)] : Array Value) = #[.func (.yield l) #[] #[], .pointer (some ⟨lb, 0, none⟩)] from by simp]
  have HB := Lib.hid (hb.mono hW)
  obtain ⟨a, b, hr⟩ := hr
  have HR := Lib.hid (⟨a, b, hr.mono hW⟩ : ∃ a b, RowI W r a b)
  have HY := Lib.hid hY
  have HJ := Lib.hid h0
  clear hY hJ h0 hr hb hW
  refine (callsIn_wide (n := 2)).1 ?_
  refine callsIn_of_wp Tryz.func66 rfl trivial ?_ rfl
  simp only [Tryz.ntmps66, List.size_toArray, List.length_cons, List.length_nil, Nat.reduceAdd, Nat.reduceSub, Array.replicate_succ, Array.replicate_zero, List.push_toArray, List.append_toArray, List.nil_append, List.cons_append]
  obtain ⟨x0, x0l⟩ := HB.out.c1
  gi_wp2
  clear x0 x0l
  gi_loopw [3] (fun s3 wr => ∃ k : Nat, k ≤ 2 ∧ s3 = .int .i64 (ixB k) ∧ (∃ pre : List (Int × Int), pre.length = k ∧ J pre wr) ∧ TBox wr lb 34 #[.slice (some ⟨r, 0, none⟩) 2 2] ∧ (∃ a b, RowI wr r a b)) (fun s3 _ => (intOf s3 + 1).toNat)
  case atStart => exact ⟨0, Nat.zero_le _, rfl, ⟨[], rfl, HJ.out⟩, HB.out, HR.out⟩
  case round =>
    obtain ⟨k, hk, rfl, ⟨pre, hpre, hj⟩, hbx, a1, b1, hrow⟩ := hrel
    have HJ1 := Lib.hid hj
    have HB1 := Lib.hid hbx
    have HR1 := Lib.hid hrow
    have HP := Lib.hid hpre
    clear hj hbx hrow hpre HJ
    rcases (by omega : k = 0 ∨ k = 1 ∨ k = 2) with rfl | rfl | rfl
    · simp only [ixB]
      obtain ⟨r0, r1, rl, _, _⟩ := HR1.out.c
      obtain ⟨x0, x0l⟩ := HB1.out.c1
      obtain ⟨fn, tmps, assign, body, hy, hR⟩ := yieldAt_wide (m' := 1) (HY.out pre (1, b1) wr HJ1.out ⟨by rw [HP.out]; decide, by rw [HP.out]; rfl⟩)
      simp only [encB] at hy
      gi_wp2
      refine hR.mono ?_
      rintro e W3 ⟨rfl, hJ3, hk3, _⟩
      have HJ3 := Lib.hid hJ3
      have HB3 := Lib.hid (hk3.1 _ HB1.out)
      have HR3 := Lib.hid (hk3.2 ⟨_, _, HR1.out⟩)
      clear hJ3 hk3 hy r0 r1 rl x0 x0l
      gi_wp2
      go_roundw
      case rel =>
        first
        | exact ⟨1, by decide, rfl, ⟨_, by rw [List.length_append, HP.out]; rfl, HJ3.out⟩, HB3.out, HR3.out⟩
        | ((repeat apply Exists.intro)
           exact ⟨⟨1, by decide, rfl, ⟨_, by rw [List.length_append, HP.out]; rfl, HJ3.out⟩, HB3.out, HR3.out⟩, rfl⟩)
      case measure => simp [intOf]
    · simp only [ixB]
      obtain ⟨r0, r1, rl, _, _⟩ := HR1.out.c
      obtain ⟨x0, x0l⟩ := HB1.out.c1
      obtain ⟨fn, tmps, assign, body, hy, hR⟩ := yieldAt_wide (m' := 1) (HY.out pre (0, a1) wr HJ1.out ⟨by rw [HP.out]; decide, by rw [HP.out]; rfl⟩)
      simp only [encB] at hy
      gi_wp2
      refine hR.mono ?_
      rintro e W3 ⟨rfl, hJ3, hk3, _⟩
      have HJ3 := Lib.hid hJ3
      have HB3 := Lib.hid (hk3.1 _ HB1.out)
      have HR3 := Lib.hid (hk3.2 ⟨_, _, HR1.out⟩)
      clear hJ3 hk3 hy r0 r1 rl x0 x0l
      gi_wp2
      go_roundw
      case rel =>
        first
        | exact ⟨2, by decide, rfl, ⟨_, by rw [List.length_append, HP.out]; rfl, HJ3.out⟩, HB3.out, HR3.out⟩
        | ((repeat apply Exists.intro)
           exact ⟨⟨2, by decide, rfl, ⟨_, by rw [List.length_append, HP.out]; rfl, HJ3.out⟩, HB3.out, HR3.out⟩, rfl⟩)
      case measure => simp [intOf]
    · simp only [ixB]
      gi_wp2
      first
      | exact bodyPost_end (results_none rfl _ _ _) rfl ⟨⟨_, rfl⟩, pre, HP.out, HJ1.out⟩
      | (refine bodyPost_ret (results_none rfl _ _ _) rfl ?_
         exact ⟨⟨_, rfl⟩, pre, HP.out, HJ1.out⟩)
      | (go_end0
         exact ⟨⟨_, rfl⟩, pre, HP.out, HJ1.out⟩)
def nV : Nat → Int
  | 0 => 13
  | 1 => 1
  | _ => 0
def aV : Nat → Int
  | 0 => 0
  | 1 => 0
  | _ => 1
def bV : Nat → Int
  | 0 => 0
  | _ => 3
structure TieI (w : World) (kb nb sb r lb : Nat) (k : Kb) (i : Nat) (W : World) : Prop where
  book : TBox W kb 70 #[.int .i64 10, .int .i64 2, .slice k.a k.n k.c, .slice k.top.ca 2 k.top.cc]
  num : TBox W nb 3 #[.int .i64 (nV i)]
  sl : TBox W sb 34 #[.slice (some ⟨r, 0, none⟩) 2 2]
  it : TBox W lb 34 #[.slice (some ⟨r, 0, none⟩) 2 2]
  row : RowI W r (aV i) (bV i)
  below : Below w.heap.size w W
/-- the worlds of a round: the number has been stored (operation 12), the digit has been stored (operation 11) -/
structure TieC (w W0 : World) (kb nb sb r lb : Nat) (k : Kb) (i : Nat) (L : Nat → Bool) (W : World) : Prop where
  oth : KeepsOthers W0 W
  book : TBox W kb 70 #[.int .i64 10, .int .i64 2, .slice k.a k.n k.c, .slice k.top.ca 2 k.top.cc]
  sl : TBox W sb 34 #[.slice (some ⟨r, 0, none⟩) 2 2]
  it : TBox W lb 34 #[.slice (some ⟨r, 0, none⟩) 2 2]
  num : TBox W nb 3 #[.int .i64 (if L 12 then nV (i + 1) else nV i)]
  row : RowI W r (if L 11 then aV (i + 1) else aV i) (if L 11 then bV (i + 1) else bV i)
  below : Below w.heap.size w W
theorem TieC.keep {w W0 : World} {kb nb sb r lb : Nat} {k : Kb} {i : Nat} {L : Nat → Bool} {W : World} (h : TieC w W0 kb nb sb r lb k i L W) (j : Nat) (hj : j < 11) : TieC w W0 kb nb sb r lb k i (fun x => L x || x == j) W := by
  have e1 : (L 11 || (11 : Nat) == j) = L 11 := by rw [show ((11 : Nat) == j) = false by simp; omega]; simp
  have e2 : (L 12 || (12 : Nat) == j) = L 12 := by rw [show ((12 : Nat) == j) = false by simp; omega]; simp
  exact ⟨h.oth, h.book, h.sl, h.it, by simp only [e2]; exact h.num, by simp only [e1]; exact h.row, h.below⟩
theorem TieC.dig {w W0 : World} {kb nb sb r lb : Nat} {k : Kb} {i : Nat} {L : Nat → Bool} {W W' : World} (h : TieC w W0 kb nb sb r lb k i L W) (o : Nat) (v : Value) (hW : W' = W.setCell ⟨r, o, none⟩ v) (hr : RowI W' r (aV (i + 1)) (bV (i + 1))) (h1 : kb ≠ r ∧ sb ≠ r ∧ lb ≠ r ∧ nb ≠ r ∧ w.heap.size ≤ r) : TieC w W0 kb nb sb r lb k i (fun x => L x || x == 11) W' := by
  subst hW
  obtain ⟨n1, n2, n3, n4, n5⟩ := h1
  exact ⟨h.oth.trans (KeepsOthers.setCell _ _ _), h.book.other (Ne.symm n1) _ _, h.sl.other (Ne.symm n2) _ _, h.it.other (Ne.symm n3) _ _, by simpa using h.num.other (Ne.symm n4) o v, by simpa using hr, Below.setCell (p := ⟨r, o, none⟩) h.below n5 v⟩
theorem TieC.rest {w W0 : World} {kb nb sb r lb : Nat} {k : Kb} {i : Nat} {L : Nat → Bool} {W : World} (h : TieC w W0 kb nb sb r lb k i L W) (v : Value) (hv : v = .int .i64 (nV (i + 1))) (h1 : kb ≠ nb ∧ sb ≠ nb ∧ lb ≠ nb ∧ nb ≠ r ∧ w.heap.size ≤ nb) : TieC w W0 kb nb sb r lb k i (fun x => L x || x == 12) (W.setCell ⟨nb, 0, none⟩ v) := by
  subst hv
  obtain ⟨n1, n2, n3, n4, n5⟩ := h1
  exact ⟨h.oth.trans (KeepsOthers.setCell _ _ _), h.book.other (Ne.symm n1) _ _, h.sl.other (Ne.symm n2) _ _, h.it.other (Ne.symm n3) _ _, by have := h.num.set 0 (.int .i64 (nV (i + 1))); simpa using this, by have := h.row.other n4 0 (.int .i64 (nV (i + 1))); simpa using this, Below.setCell (p := ⟨nb, 0, none⟩) h.below n5 _⟩
attribute [local irreducible] wpCalm clsAt wpLst
set_option maxHeartbeats 8000000 in
set_option maxRecDepth 100000 in
theorem tie13_any (k : Kb) (w : World) (ok : k.Ok) (hT : KbAt w k) (hb : k.base = 10) (hp : k.pl = 2) :
    Calls Tryz.prog 25 #[.agg #[.int .i64 10, .int .i64 2, .slice k.a k.n k.c, .slice k.top.ca 2 k.top.cc], .int .i64 13] w fun e w' => (∃ r, e = .returned (.tuple #[.slice (some ⟨r, 0, none⟩) 2 2, .int .i64 0]) ∧ RowI w' r 1 3) ∧ Below w.heap.size w w' := by
  have HD0 := Lib.hid (Below.refl w.heap.size w)
  have HOK := Lib.hid ok
  have HT0 := Lib.hid hT
  have HBS := Lib.hid hb
  have HPL := Lib.hid hp
  clear ok hT hb hp
  refine (callsIn_wide (n := 7)).1 ?_
  refine callsIn_of_wp_marks Tryz.func25 rfl trivial ?_ rfl
  simp only [Tryz.ntmps25, List.size_toArray, List.length_cons, List.length_nil, Nat.reduceAdd, Nat.reduceSub, Array.replicate_succ, Array.replicate_zero, List.push_toArray, List.append_toArray, List.nil_append, List.cons_append]
  refine wpIn_wide.2 ?_
  go_wp2_with fail
  go_loopw [6, 14] (fun s6 s14 wr => ∃ j : Nat, j ≤ 2 ∧ s6 = .int .i64 (tenP j) ∧ s14 = .int .i64 (j : Int) ∧ Below ((w.alloc (.cells #[.int .i64 10, .int .i64 2, .slice k.a k.n k.c, .slice k.top.ca 2 k.top.cc] 70)).alloc (.cells #[.int .i64 13] 3)).heap.size ((w.alloc (.cells #[.int .i64 10, .int .i64 2, .slice k.a k.n k.c, .slice k.top.ca 2 k.top.cc] 70)).alloc (.cells #[.int .i64 13] 3)) wr) (fun _ s14 _ => 2 - (intOf s14).toNat)
  case atStart => exact ⟨0, Nat.zero_le _, rfl, rfl, Below.refl _ _⟩
  case round =>
    obtain ⟨j, hk_j, rfl, rfl, hb⟩ := hrel
    have HBj := Lib.hid hb
    have hB1 : Below w.heap.size w wr := bTrans (bAlloc (bAlloc (Below.refl _ _) (.cells #[.int .i64 10, .int .i64 2, .slice k.a k.n k.c, .slice k.top.ca 2 k.top.cc] 70)) (.cells #[.int .i64 13] 3)) hb
    have HD1 := Lib.hid (bTrans HD0.out hB1)
    have HT1 := Lib.hid (HT0.out.mono hB1)
    have HU_j1 := Lib.hid ((show Upto ((w.alloc (.cells #[.int .i64 10, .int .i64 2, .slice k.a k.n k.c, .slice k.top.ca 2 k.top.cc] 70)).alloc (.cells #[.int .i64 13] 3)) wr from HBj.out))
    have K1 := Lib.hid (show TBox wr w.heap.size 70 #[.int .i64 10, .int .i64 2, .slice k.a k.n k.c, .slice k.top.ca 2 k.top.cc] from by have := ((TBox.new w #[.int .i64 10, .int .i64 2, .slice k.a k.n k.c, .slice k.top.ca 2 k.top.cc] 70).mono (bAlloc (Below.refl _ _) (.cells #[.int .i64 13] 3))).mono hb; simpa using this)
    have N1 := Lib.hid (show TBox wr (w.heap.size + 1) 3 #[.int .i64 13] from by have := ((TBox.new (w.alloc (.cells #[.int .i64 10, .int .i64 2, .slice k.a k.n k.c, .slice k.top.ca 2 k.top.cc] 70)) #[.int .i64 13] 3).mono (Below.refl _ _)).mono hb; simpa using this)
    clear hb hB1
    obtain ⟨K_0, K_1, K_2, K_3, K_l⟩ := K1.out.c4
    obtain ⟨N_0, N_l⟩ := N1.out.c1
    by_cases hlt_j : j < 2
    case pos =>
      have h1_j : (j : Int) < (2 : Int) := by omega
      have h0_j : (0 : Int) ≤ (j : Int) := by omega
      have hb_j : j < 100 := by omega
      have e1 := tenP_step hlt_j
      go_wp2_with fail
      go_roundw
      case rel =>
        first
        | exact ⟨j + 1, by omega, rfl, by go_num, HU_j1.out⟩
        | ((repeat apply Exists.intro)
           refine ⟨⟨j + 1, by omega, rfl, ?_, HU_j1.out⟩, rfl⟩
           go_num)
      case measure => simp [intOf]; omega
    have he_j : j = 2 := by omega
    subst he_j
    have e4 : tenP 2 = 100 := rfl
    have HC1 := Lib.hid (fun (w' : World) (hb : Below wr.heap.size wr w') => (withinK_b 13 0 99 true w' (by decide) : Calls Tryz.prog 46 #[.int .i64 13, .int .i64 0, .int .i64 99] w' fun e w'' => e = .returned (.bool true) ∧ Below w'.heap.size w' w''))
    have HC3 := Lib.hid (fun (w' : World) (hb : Below wr.heap.size wr w') => (by have h := askK_any k w' HOK.out (HT1.out.mono hb); rw [HBS.out, HPL.out] at h; exact h : Calls Tryz.prog 45 #[.agg #[.int .i64 10, .int .i64 2, .slice k.a k.n k.c, .slice k.top.ca 2 k.top.cc], .bool true] w' fun e w'' => e = .returned (.int .i64 0) ∧ Below w'.heap.size w' w''))
    go_wp2_with fail
    refine wp_region_quiet_below (by kernel_rfl) (by kernel_rfl) ?_
    repeat (go_big_quiet_step (((first | (go_at_call 46; with_reducible exact Calls.regrown_of (HC1.out _ (below_regrown _ _ _))) | (go_at_call 45; with_reducible exact Calls.regrown_of (HC3.out _ (below_regrown _ _ _)))))))
    refine wpQuiet_nil ?_
    intro w2 hw9
    have hb := below_of_regrown hw9
    clear hw9
    clear HC1 HC3 e4
    have hB2 : Below wr.heap.size wr w2 := bTrans (Below.refl _ _) hb
    have HD2 := Lib.hid (bTrans HD1.out hB2)
    have HT2 := Lib.hid (HT1.out.mono hB2)
    have HU_j2 := Lib.hid (HU_j1.out.mono hB2)
    have K2 := Lib.hid (K1.out.mono hB2)
    have N2 := Lib.hid (N1.out.mono hB2)
    clear hb hB2 HD1 HT1 HU_j1 K1 K_0 K_1 K_2 K_3 K_l N1 N_0 N_l
    obtain ⟨K_0, K_1, K_2, K_3, K_l⟩ := K2.out.c4
    obtain ⟨N_0, N_l⟩ := N2.out.c1
    obtain ⟨i0, hi, iz0, iz1, iz2⟩ := info_parts infoInt
    go_wp2_with (at_make; refine wpList_make_full _ rfl _ _ 34 rfl w2.heap.size 3 i0 (.int .i64 0) 1 Tryz.underlying34 hi iz0 iz1 .i64 .i64 _ _ 2 rfl rfl rfl rfl (by rw [iz2]; decide) (by unfold maxLen; omega) (Nat.le_refl _) ?_)
    intro w9 hown9 hgrow9
    have hRow := rowI_made hown9
    have hb := below_grown hgrow9
    clear hown9 hgrow9 hi iz0 iz1 iz2
    have HRN := Lib.hid N2.out.lt
    have hB9 : Below w2.heap.size w2 w9 := bTrans (Below.refl _ _) hb
    have HD9 := Lib.hid (bTrans HD2.out hB9)
    have HT9 := Lib.hid (HT2.out.mono hB9)
    have HU_j9 := Lib.hid (HU_j2.out.mono hB9)
    have HR9 := Lib.hid (hRow)
    have K9 := Lib.hid (K2.out.mono hB9)
    have N9 := Lib.hid (N2.out.mono hB9)
    clear hb hB9 HD2 HT2 HU_j2 K2 K_0 K_1 K_2 K_3 K_l N2 N_0 N_l
    obtain ⟨K_0, K_1, K_2, K_3, K_l⟩ := K9.out.c4
    obtain ⟨N_0, N_l⟩ := N9.out.c1
    clear hRow
    obtain ⟨r, hr⟩ : ∃ y, y = w2.heap.size := ⟨_, rfl⟩
    rw [← hr] at HR9 HRN ⊢
    clear hr
    go_wp2_with fail
    have HR9S := Lib.hid HR9.out.c.2.2.1
    refine (back_any r _).mono ?_
    rintro e w10 ⟨⟨rfl, hf⟩, hb⟩
    have hB10 : Below w9.heap.size w9 w10 := bTrans (bAlloc (Below.refl _ _) (.cells #[.slice (some ⟨r, 0, none⟩) 2 2] 34)) hb
    have HD10 := Lib.hid (bTrans HD9.out hB10)
    have HT10 := Lib.hid (HT9.out.mono hB10)
    have HU_j10 := Lib.hid (HU_j9.out.mono hB10)
    have HR10 := Lib.hid (HR9.out.mono hB10)
    have K10 := Lib.hid (K9.out.mono hB10)
    have N10 := Lib.hid (N9.out.mono hB10)
    have S10 := Lib.hid (show TBox w10 w9.heap.size 34 #[.slice (some ⟨r, 0, none⟩) 2 2] from by have := ((TBox.new w9 #[.slice (some ⟨r, 0, none⟩) 2 2] 34).mono (Below.refl _ _)).mono hb; simpa using this)
    clear hb hB10 HD9 HT9 HU_j9 HR9 K9 K_0 K_1 K_2 K_3 K_l N9 N_0 N_l
    obtain ⟨K_0, K_1, K_2, K_3, K_l⟩ := K10.out.c4
    obtain ⟨N_0, N_l⟩ := N10.out.c1
    obtain ⟨S_0, S_l⟩ := S10.out.c1
    obtain ⟨lb, hlb⟩ : ∃ y, y = (w9.alloc (.cells #[.slice (some ⟨r, 0, none⟩) 2 2] 34)).heap.size := ⟨_, rfl⟩
    rw [← hlb] at hf ⊢
    have HSEQ := Lib.hid (back_seq 6 lb r w10 hf ⟨_, _, HR10.out⟩)
    have HLB := Lib.hid hf
    have HLBN := Lib.hid (show lb = w9.heap.size + 1 by rw [hlb]; simp)
    clear hf hlb
    go_wp2_with fail
    obtain ⟨kb, hkb⟩ : ∃ y, y = w.heap.size := ⟨_, rfl⟩
    obtain ⟨nb, hnb⟩ : ∃ y, y = (w.heap.size + 1) := ⟨_, rfl⟩
    obtain ⟨sb, hsb⟩ : ∃ y, y = w9.heap.size := ⟨_, rfl⟩
    have HTI := Lib.hid (show TieI w kb nb sb r lb k 0 w10 from ⟨by rw [hkb]; exact K10.out, by rw [hnb]; exact N10.out, by rw [hsb]; exact S10.out, HLB.out, HR10.out, HD10.out⟩)
    have HNE := Lib.hid (show w.heap.size ≤ nb ∧ nb ≠ r ∧ kb ≠ nb ∧ sb ≠ nb ∧ kb ≠ r ∧ sb ≠ r ∧ w.heap.size ≤ r ∧ lb ≠ nb ∧ lb ≠ r ∧ nb < w10.heap.size ∧ r < w10.heap.size by have h1 := HR10.out.c.2.2.1; have h2 := N10.out.lt; have h3 := S10.out.lt; have h4 := HRN.out; have h5 := HR9S.out; have h6 := HLBN.out; omega)
    simp only [← hsb]
    simp only [← hnb]
    simp only [← hkb]
    clear hkb hnb hsb K_0 K_1 K_2 K_3 K_l N_0 N_l S_0 S_l
    refine (wpIn_wide (n := 7)).1 ?_
    refine wpIn_range_all (gf := 66) (bnd := #[]) (lb := #[.pointer (some ⟨lb, 0, none⟩)]) rfl (by decide) rfl trivial (enters_of Tryz.func66 (by kernel_rfl)) HSEQ.out (fun h k => h.trans k) (fun W l o o' _ ho hc => KpB.put ho hc o') (fun _ => rfl)
      (fun pre W => TieI w kb nb sb r lb k pre.length W)
      (fun pre W W' row h hg hr => ⟨h.book.kept (kept_cells (l := [70]) hg (fun r e => (hr r e).2)) (by simp), h.num.kept (kept_cells (l := [3]) hg (fun r e => (hr r e).2)) (by simp), h.sl.kept (kept_cells (l := [34]) hg (fun r e => (hr r e).2)) (by simp), h.it.kept (kept_cells (l := [34]) hg (fun r e => (hr r e).2)) (by simp), h.row.kept (kept_cells hg (fun r e => (hr r e).2)), h.below.grown hg h.below.size (fun q hq => by have := (hr q hq).1; have := HD10.out.size; omega)⟩)
      HTI.out
      (fun x a' W => ∃ v0 v1 v4 v5 v6 v7 v10 v11 v12 v13 v14 v15 v16 v17 v18 v19 v20 v21 v22 v23 v24 v25 v26 v27 v28 v29 v30 v31 v32 v33 v34 v35 v36 v39 v40 v41 v42 v43 v44 v45 v46 v47 v48 v49 v50, a' = { tmps := #[v0, v1, .pointer (some ⟨kb, 0, none⟩), .pointer (some ⟨nb, 0, none⟩), v4, v5, v6, v7, .pointer (some ⟨sb, 0, none⟩), .int .i64 x.1, v10, v11, v12, v13, v14, v15, v16, v17, v18, v19, v20, v21, v22, v23, v24, v25, v26, v27, v28, v29, v30, v31, v32, v33, v34, v35, v36, .int .i64 x.1, .int .i64 x.2, v39, v40, v41, v42, v43, v44, v45, v46, v47, v48, v49, v50], defers := [] })
      (fun x a' _ X Y row h hg hr => h) ?assign ?body ?done
    case assign =>
      rintro l pre x W K hsz hI hN hK
      clear hN
      simp only [encB]
      gi_wp2
      exact hK _ _ (KeepsFrom.refl _ _) (KpB.refl _ _ _) hI ⟨_, _, _, _, _, _, _, _, _, _, _, _, _, _, _, _, _, _, _, _, _, _, _, _, _, _, _, _, _, _, _, _, _, _, _, _, _, _, _, _, _, _, _, _, _, rfl⟩
    case body =>
      rintro l pre x a' W hsz - hI ⟨v0, v1, v4, v5, v6, v7, v10, v11, v12, v13, v14, v15, v16, v17, v18, v19, v20, v21, v22, v23, v24, v25, v26, v27, v28, v29, v30, v31, v32, v33, v34, v35, v36, v39, v40, v41, v42, v43, v44, v45, v46, v47, v48, v49, v50, rfl⟩ ⟨W0, hlen, hx⟩
      obtain ⟨x1, x2⟩ := x
      simp only at hx
      subst hx
      have HI := Lib.hid hI
      have HL := Lib.hid hlen
      clear hI
      rcases (by omega : pre.length = 0 ∨ pre.length = 1) with e | e
      · have HE := Lib.hid e
        rw [e] at HI ⊢
        clear e hlen
        simp only [ixB]
        gi_wp2
        refine wpIn_region_lst (openRound _ l) [.slice (some ⟨r, 0, none⟩) 2 2, .int .i64 1, .int .i64 13, .pointer (some ⟨kb, 0, none⟩), .int .i64 10, .int .i64 3, .int .i64 13, .pointer (some ⟨kb, 0, none⟩), .int .i64 10, .int .i64 1, .pointer (some ⟨r, 1, none⟩), undef, undef] (TieC w W kb nb sb r lb k 0) (by kernel_rfl) (by kernel_rfl) rfl ⟨KeepsOthers.drew W, HI.out.book, HI.out.sl, HI.out.it, HI.out.num, HI.out.row, HI.out.below.drew⟩ ?_
        refine wpLst_do rfl (fun L W hC hk hcl => ?_) ?_
        · have hK := hC.keep 0 (by decide)
          obtain ⟨S_0, S_l⟩ := hC.sl.c1
          clear hC hcl hk
          go_simp
          try first | exact hK | exact ⟨hK, rfl⟩ | exact ⟨hK, by decide⟩ | decide
        refine wpLst_do rfl (fun L W hC hk hcl => ?_) ?_
        · have hK := hC.keep 1 (by decide)
          clear hC hcl hk
          go_simp
          try first | exact hK | exact ⟨hK, rfl⟩ | exact ⟨hK, by decide⟩ | decide
        refine wpLst_do rfl (fun L W hC hk hcl => ?_) ?_
        · have hK := hC.keep 2 (by decide)
          have n12 : L 12 = false := (Bool.eq_false_or_eq_true (L 12)).resolve_left fun h => by have := hcl 12 2 h (by kernel_rfl); rw [hk] at this; cases this
          have hnn := hC.num
          rw [n12] at hnn
          simp only [if_false, Bool.false_eq_true, nV] at hnn
          obtain ⟨N_0, N_l⟩ := hnn.c1
          clear hnn n12
          clear hC hcl hk
          go_simp
          try first | exact hK | exact ⟨hK, rfl⟩ | exact ⟨hK, by decide⟩ | decide
        refine wpLst_do rfl (fun L W hC hk hcl => ?_) ?_
        · have hK := hC.keep 3 (by decide)
          clear hC hcl hk
          go_simp
          try first | exact hK | exact ⟨hK, rfl⟩ | exact ⟨hK, by decide⟩ | decide
        refine wpLst_do rfl (fun L W hC hk hcl => ?_) ?_
        · have hK := hC.keep 4 (by decide)
          obtain ⟨K_0, K_1, K_2, K_3, K_l⟩ := hC.book.c4
          clear hC hcl hk
          go_simp
          try first | exact hK | exact ⟨hK, rfl⟩ | exact ⟨hK, by decide⟩ | decide
        refine wpLst_do rfl (fun L W hC hk hcl => ?_) ?_
        · have hK := hC.keep 5 (by decide)
          clear hC hcl hk
          go_simp
          try first | exact hK | exact ⟨hK, rfl⟩ | exact ⟨hK, by decide⟩ | decide
        refine wpLst_do rfl (fun L W hC hk hcl => ?_) ?_
        · have hK := hC.keep 6 (by decide)
          have n12 : L 12 = false := (Bool.eq_false_or_eq_true (L 12)).resolve_left fun h => by have := hcl 12 6 h (by kernel_rfl); rw [hk] at this; cases this
          have hnn := hC.num
          rw [n12] at hnn
          simp only [if_false, Bool.false_eq_true, nV] at hnn
          obtain ⟨N_0, N_l⟩ := hnn.c1
          clear hnn n12
          clear hC hcl hk
          go_simp
          try first | exact hK | exact ⟨hK, rfl⟩ | exact ⟨hK, by decide⟩ | decide
        refine wpLst_do rfl (fun L W hC hk hcl => ?_) ?_
        · have hK := hC.keep 7 (by decide)
          clear hC hcl hk
          go_simp
          try first | exact hK | exact ⟨hK, rfl⟩ | exact ⟨hK, by decide⟩ | decide
        refine wpLst_do rfl (fun L W hC hk hcl => ?_) ?_
        · have hK := hC.keep 8 (by decide)
          obtain ⟨K_0, K_1, K_2, K_3, K_l⟩ := hC.book.c4
          clear hC hcl hk
          go_simp
          try first | exact hK | exact ⟨hK, rfl⟩ | exact ⟨hK, by decide⟩ | decide
        refine wpLst_do rfl (fun L W hC hk hcl => ?_) ?_
        · have hK := hC.keep 9 (by decide)
          clear hC hcl hk
          go_simp
          try first | exact hK | exact ⟨hK, rfl⟩ | exact ⟨hK, by decide⟩ | decide
        refine wpLst_do rfl (fun L W hC hk hcl => ?_) ?_
        · have hK := hC.keep 10 (by decide)
          obtain ⟨r0, r1, rl, _, _⟩ := hC.row.c
          clear hC hcl hk
          go_simp
          try first | exact hK | exact ⟨hK, rfl⟩ | exact ⟨hK, by decide⟩ | decide
        refine wpLst_do rfl (fun L W hC hk hcl => ?_) ?_
        · have hrr := hC.row
          rw [hk] at hrr
          simp only [if_false, Bool.false_eq_true] at hrr
          have hK := hC.dig 1 (.int .i64 3) rfl (hrr.set1 3) (by have := HNE.out; omega)
          obtain ⟨r0, r1, rl, rf0, rf1⟩ := hrr.c
          clear hC hcl hk hrr
          go_simp
          try first | exact hK | exact ⟨hK, rfl⟩ | exact ⟨hK, by decide⟩ | decide
        refine wpLst_do rfl (fun L W hC hk hcl => ?_) ?_
        · have hK := hC.rest (.int .i64 1) rfl (by have := HNE.out; omega)
          have N_f := hC.num.frozen 0
          obtain ⟨N_0, N_l⟩ := hC.num.c1
          clear hC hcl hk
          go_simp
          try first | exact hK | exact ⟨hK, rfl⟩ | exact ⟨hK, by decide⟩ | decide
        refine wpLst_nil ?_
        intro L W' hall hC
        have h11 := hall 11 (by decide)
        have h12 := hall 12 (by decide)
        have hnn := hC.num
        rw [h12] at hnn
        have hrr := hC.row
        rw [h11] at hrr
        simp only [if_true] at hnn hrr
        have HTN := Lib.hid (show TieI w kb nb sb r lb k 1 W' from ⟨hC.book, hnn, hC.sl, hC.it, hrr, hC.below⟩)
        have HOT := Lib.hid hC.oth
        clear hall hC h11 h12 hnn hrr
        simp only [Act.put, List.setIfInBounds_toArray, List.set_cons_succ, List.set_cons_zero]
        gi_wp2
        refine ⟨HOT.out.from _, ⟨fun cs hcs => ?_, fun _ => ⟨_, _, HTN.out.row⟩⟩, ?_⟩
        · have h1 := HI.out.it
          unfold TBox at h1 hcs
          rw [h1] at hcs
          injection hcs with hcs
          injection hcs with hcs
          subst hcs
          exact HTN.out.it
        · show TieI w kb nb sb r lb k (pre ++ [_]).length W'
          rw [List.length_append, HE.out]
          exact HTN.out
      · have HE := Lib.hid e
        rw [e] at HI ⊢
        clear e hlen
        simp only [ixB]
        gi_wp2
        refine wpIn_region_lst (openRound _ l) [.slice (some ⟨r, 0, none⟩) 2 2, .int .i64 0, .int .i64 1, .pointer (some ⟨kb, 0, none⟩), .int .i64 10, .int .i64 1, .int .i64 1, .pointer (some ⟨kb, 0, none⟩), .int .i64 10, .int .i64 0, .pointer (some ⟨r, 0, none⟩), undef, undef] (TieC w W kb nb sb r lb k 1) (by kernel_rfl) (by kernel_rfl) rfl ⟨KeepsOthers.drew W, HI.out.book, HI.out.sl, HI.out.it, HI.out.num, HI.out.row, HI.out.below.drew⟩ ?_
        refine wpLst_do rfl (fun L W hC hk hcl => ?_) ?_
        · have hK := hC.keep 0 (by decide)
          obtain ⟨S_0, S_l⟩ := hC.sl.c1
          clear hC hcl hk
          go_simp
          try first | exact hK | exact ⟨hK, rfl⟩ | exact ⟨hK, by decide⟩ | decide
        refine wpLst_do rfl (fun L W hC hk hcl => ?_) ?_
        · have hK := hC.keep 1 (by decide)
          clear hC hcl hk
          go_simp
          try first | exact hK | exact ⟨hK, rfl⟩ | exact ⟨hK, by decide⟩ | decide
        refine wpLst_do rfl (fun L W hC hk hcl => ?_) ?_
        · have hK := hC.keep 2 (by decide)
          have n12 : L 12 = false := (Bool.eq_false_or_eq_true (L 12)).resolve_left fun h => by have := hcl 12 2 h (by kernel_rfl); rw [hk] at this; cases this
          have hnn := hC.num
          rw [n12] at hnn
          simp only [if_false, Bool.false_eq_true, nV] at hnn
          obtain ⟨N_0, N_l⟩ := hnn.c1
          clear hnn n12
          clear hC hcl hk
          go_simp
          try first | exact hK | exact ⟨hK, rfl⟩ | exact ⟨hK, by decide⟩ | decide
        refine wpLst_do rfl (fun L W hC hk hcl => ?_) ?_
        · have hK := hC.keep 3 (by decide)
          clear hC hcl hk
          go_simp
          try first | exact hK | exact ⟨hK, rfl⟩ | exact ⟨hK, by decide⟩ | decide
        refine wpLst_do rfl (fun L W hC hk hcl => ?_) ?_
        · have hK := hC.keep 4 (by decide)
          obtain ⟨K_0, K_1, K_2, K_3, K_l⟩ := hC.book.c4
          clear hC hcl hk
          go_simp
          try first | exact hK | exact ⟨hK, rfl⟩ | exact ⟨hK, by decide⟩ | decide
        refine wpLst_do rfl (fun L W hC hk hcl => ?_) ?_
        · have hK := hC.keep 5 (by decide)
          clear hC hcl hk
          go_simp
          try first | exact hK | exact ⟨hK, rfl⟩ | exact ⟨hK, by decide⟩ | decide
        refine wpLst_do rfl (fun L W hC hk hcl => ?_) ?_
        · have hK := hC.keep 6 (by decide)
          have n12 : L 12 = false := (Bool.eq_false_or_eq_true (L 12)).resolve_left fun h => by have := hcl 12 6 h (by kernel_rfl); rw [hk] at this; cases this
          have hnn := hC.num
          rw [n12] at hnn
          simp only [if_false, Bool.false_eq_true, nV] at hnn
          obtain ⟨N_0, N_l⟩ := hnn.c1
          clear hnn n12
          clear hC hcl hk
          go_simp
          try first | exact hK | exact ⟨hK, rfl⟩ | exact ⟨hK, by decide⟩ | decide
        refine wpLst_do rfl (fun L W hC hk hcl => ?_) ?_
        · have hK := hC.keep 7 (by decide)
          clear hC hcl hk
          go_simp
          try first | exact hK | exact ⟨hK, rfl⟩ | exact ⟨hK, by decide⟩ | decide
        refine wpLst_do rfl (fun L W hC hk hcl => ?_) ?_
        · have hK := hC.keep 8 (by decide)
          obtain ⟨K_0, K_1, K_2, K_3, K_l⟩ := hC.book.c4
          clear hC hcl hk
          go_simp
          try first | exact hK | exact ⟨hK, rfl⟩ | exact ⟨hK, by decide⟩ | decide
        refine wpLst_do rfl (fun L W hC hk hcl => ?_) ?_
        · have hK := hC.keep 9 (by decide)
          clear hC hcl hk
          go_simp
          try first | exact hK | exact ⟨hK, rfl⟩ | exact ⟨hK, by decide⟩ | decide
        refine wpLst_do rfl (fun L W hC hk hcl => ?_) ?_
        · have hK := hC.keep 10 (by decide)
          obtain ⟨r0, r1, rl, _, _⟩ := hC.row.c
          clear hC hcl hk
          go_simp
          try first | exact hK | exact ⟨hK, rfl⟩ | exact ⟨hK, by decide⟩ | decide
        refine wpLst_do rfl (fun L W hC hk hcl => ?_) ?_
        · have hrr := hC.row
          rw [hk] at hrr
          simp only [if_false, Bool.false_eq_true] at hrr
          have hK := hC.dig 0 (.int .i64 1) rfl (hrr.set0 1) (by have := HNE.out; omega)
          obtain ⟨r0, r1, rl, rf0, rf1⟩ := hrr.c
          clear hC hcl hk hrr
          go_simp
          try first | exact hK | exact ⟨hK, rfl⟩ | exact ⟨hK, by decide⟩ | decide
        refine wpLst_do rfl (fun L W hC hk hcl => ?_) ?_
        · have hK := hC.rest (.int .i64 0) rfl (by have := HNE.out; omega)
          have N_f := hC.num.frozen 0
          obtain ⟨N_0, N_l⟩ := hC.num.c1
          clear hC hcl hk
          go_simp
          try first | exact hK | exact ⟨hK, rfl⟩ | exact ⟨hK, by decide⟩ | decide
        refine wpLst_nil ?_
        intro L W' hall hC
        have h11 := hall 11 (by decide)
        have h12 := hall 12 (by decide)
        have hnn := hC.num
        rw [h12] at hnn
        have hrr := hC.row
        rw [h11] at hrr
        simp only [if_true] at hnn hrr
        have HTN := Lib.hid (show TieI w kb nb sb r lb k 2 W' from ⟨hC.book, hnn, hC.sl, hC.it, hrr, hC.below⟩)
        have HOT := Lib.hid hC.oth
        clear hall hC h11 h12 hnn hrr
        simp only [Act.put, List.setIfInBounds_toArray, List.set_cons_succ, List.set_cons_zero]
        gi_wp2
        refine ⟨HOT.out.from _, ⟨fun cs hcs => ?_, fun _ => ⟨_, _, HTN.out.row⟩⟩, ?_⟩
        · have h1 := HI.out.it
          unfold TBox at h1 hcs
          rw [h1] at hcs
          injection hcs with hcs
          injection hcs with hcs
          subst hcs
          exact HTN.out.it
        · show TieI w kb nb sb r lb k (pre ++ [_]).length W'
          rw [List.length_append, HE.out]
          exact HTN.out
    case done =>
      rintro D xs W hD hxs hI hK
      rw [hxs] at hI
      have HI := Lib.hid hI
      obtain ⟨S_0, S_l⟩ := hI.sl.c1
      clear hI hxs
      go_wp2_with fail
      refine ⟨by simp, .inl ⟨_, _, rfl, run_takeDeferred hK, ?_⟩⟩
      exact ⟨_, results_tmp2 rfl _ _ _, ⟨r, rfl, HI.out.row.kept (kept_cells (grownBy_putObj' W D _) (fun r e => by cases e; exact ⟨_, hK, rfl⟩))⟩, below_put HI.out.below (by have := HI.out.below.size; have := HD10.out.size; omega) (by have := HD10.out.size; omega) _⟩
end Go.Proofs.YtifkjnmnflhnoaaGreatDoor

