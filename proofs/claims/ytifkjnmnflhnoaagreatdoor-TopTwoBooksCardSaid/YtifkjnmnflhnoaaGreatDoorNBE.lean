/- Parts joined: what all claims of this seat need. -/
import Derived.Test.YtifkjnmnflhnoaaGreatDoorNBD
import Derived.Test.YtifkjnmnflhnoaaGreatDoorNBB
import Derived.Test.YtifkjnmnflhnoaaGreatDoorNBC
import Derived.Deep.LoopGhost
set_option linter.unusedSimpArgs false
set_option linter.unusedVariables false
namespace Go.Proofs.YtifkjnmnflhnoaaGreatDoor
open Go.RowKit Go.Sort
/-- the least and the greatest of the first k numbers -/
def spanN (g : Nat → Int) : Nat → Int × Int
  | 0 => (0, 0)
  | 1 => (g 0, g 0)
  | k + 2 => (min (spanN g (k + 1)).1 (g (k + 1)), max (spanN g (k + 1)).2 (g (k + 1)))
theorem OwnL.set {w : World} {base : Nat} {v : Value} {l : List Int} (h : OwnL w base v l) {b : Nat} (hb : b < base) (o : Nat) (u : Value) : OwnL (w.setCell ⟨b, o, none⟩ u) base v l :=
  ⟨h.1, h.2.imp id fun ⟨g, cap, cur, h1, h2, h3, h4⟩ => ⟨g, cap, cur, h1, h2, (Below.heap_setCell w ⟨b, o, none⟩ u g (by show g ≠ b; omega)).trans h3, h4⟩⟩
theorem leftL_at {t : Qt} {k : Nat} {x : Int} (h : t.leftL[k]? = some x) : ∃ i : Nat, x = (i : Int) ∧ i < t.nw ∧ t.leftB i = true := by
  obtain ⟨i, h1, h2, h3⟩ := (leftTo_mem t t.nw).1 (List.mem_of_getElem? h)
  exact ⟨i, h3, h1, h2⟩
set_option maxHeartbeats 4000000 in
set_option maxRecDepth 100000 in
theorem span_any (Aw Af : Option Addr) (cw cf C mp s : Nat) (t : Qt) (f : Nat) (cs : Array Value) (g : Nat → Int) (w : World) (hc : CourtAt w C Aw Af cw cf t s mp) (h64 : s < 64) (hbl : bitsL s = t.leftL) (hnw : t.nw ≤ 6) (hT : QAt w Aw Af t) (hB : TabAt w) (hcf : Enters f)
    (hf : ∀ k i : Nat, t.leftL[k]? = some (i : Int) → i < t.nw → ∀ w', Below w.heap.size w w' → ∀ (A' : Option Addr) (c' : Nat), RowsAt w' A' (t.world i) → Calls Tryz.prog f (#[.agg #[.slice A' (t.world i).n c']] ++ cs) w' fun e w'' => e = .returned (.int .i64 (g k)) ∧ Below w'.heap.size w' w'') :
    Calls Tryz.prog 30 #[.pointer (some ⟨C, 0, none⟩), .func (.func f) #[] cs] w fun e w' => e = .returned (.agg #[.int .i64 (spanN g t.leftL.length).1, .int .i64 (spanN g t.leftL.length).2]) ∧ Below w.heap.size w w' := by
  have hb2 := bAlloc (bAlloc (Below.refl w.heap.size w) (.cells #[.int .i64 0, .int .i64 0] 43)) (.cells #[.int .i64 0, .int .i64 0] 43)
  have HCT := Lib.hid hc
  have HT := Lib.hid hT
  have HTB := Lib.hid (hB.mono hb2)
  have HF := Lib.hid hf
  have x0 := hc.box.lt
  have y0 := hc.box.cell 3 _ rfl
  have HBL := Lib.hid hbl
  unfold Enters at hcf
  clear hc hT hB hf hb2 hbl
  go_enter Tryz.func30, Tryz.ntmps30
  go_wp2_with fail
  refine (list_any s _ h64 HTB.out).mono ?_
  rintro e w2 ⟨⟨v, rfl, hv⟩, hb2⟩
  rw [HBL.out] at hv
  obtain ⟨A, c, rfl, hrow⟩ := hv.nums
  have HV := Lib.hid (hv.lower (show w.heap.size + 2 ≤ _ by simp))
  have hbA := bTrans (bAlloc (Below.refl (w.alloc (.cells #[.int .i64 0, .int .i64 0] 43)).heap.size (w.alloc (.cells #[.int .i64 0, .int .i64 0] 43))) (.cells #[.int .i64 0, .int .i64 0] 43)) hb2
  have HBA := Lib.hid hbA
  have HX2 := Lib.hid (BoxAt.mono (BoxAt.two (w := (w.alloc (.cells #[.int .i64 0, .int .i64 0] 43)).alloc (.cells #[.int .i64 0, .int .i64 0] 43)) (a := w.heap.size + 1) (x := .int .i64 0) (y := .int .i64 0) (by simp) (by simp [go_sem]) (by simp [go_sem])) hb2)
  have HZ2 := Lib.hid (fun o => (hb2.frozen (p := ⟨w.heap.size + 1, o, none⟩) (by simp)).trans (by simp [go_sem]) : ∀ o, w2.frozen? ⟨w.heap.size + 1, o, none⟩ = false)
  obtain ⟨n, hn⟩ : ∃ n, t.leftL.length = n := ⟨_, rfl⟩
  have hn6 : n ≤ 6 := by have := leftTo_len t t.nw; unfold Qt.leftL at hn; omega
  rw [hn]
  have HN := Lib.hid hn
  clear hv hrow hb2 hbA hn y0
  go_wp2_with fail
  go_loopw [15] (fun i wr => ∃ k : Nat, i = .int .i64 k ∧ k ≤ n ∧ BoxAt wr (w.heap.size + 1) [.int .i64 (spanN g k).1, .int .i64 (spanN g k).2] ∧ (∀ o, wr.frozen? ⟨w.heap.size + 1, o, none⟩ = false) ∧ OwnL wr (w.heap.size + 2) (.slice A n c) t.leftL ∧ Below (w.heap.size + 1) (w.alloc (.cells #[.int .i64 0, .int .i64 0] 43)) wr) (fun i _ => n - (intOf i).toNat)
  case atStart => exact ⟨0, rfl, Nat.zero_le _, HX2.out, HZ2.out, HN.out ▸ HV.out, by have := HBA.out; simpa using this⟩
  case round =>
    obtain ⟨k, rfl, hk, hX, hZ, hO, hbel⟩ := hrel
    have HX := Lib.hid hX
    have HZ := Lib.hid hZ
    have HO := Lib.hid hO
    have HL := Lib.hid hbel
    have hbw : Below w.heap.size w wr := bTrans (bAlloc (Below.refl w.heap.size w) (.cells #[.int .i64 0, .int .i64 0] 43)) (by simpa using hbel)
    have HBW := Lib.hid hbw
    have hsz := hbel.size
    simp only [World.size_alloc] at hsz
    clear hX hZ hO hbel
    by_cases hlt : k < n
    · obtain ⟨x, hx⟩ : ∃ x, t.leftL[k]? = some x := ⟨_, List.getElem?_eq_getElem (by rw [HN.out]; exact hlt)⟩
      obtain ⟨i, rfl, hi, _⟩ := leftL_at hx
      obtain ⟨A1, c1, e1, hrow⟩ := HO.out.nums
      injection e1 with e1 e3 e2
      clear e3
      subst e1 e2
      obtain ⟨b, o, rfl, hbs, c0⟩ := hrow.num hx
      have hct := HCT.out.mono hbw
      have y1 := hct.box.cell 1 _ rfl
      have x1 := hct.box.lt
      rcases (HT.out.mono hbw).worlds with h0 | ⟨b2, o2, hA, hb2, hcell⟩
      · omega
      obtain ⟨A', c', d0, hr, _⟩ := hcell i hi
      obtain ⟨gk, hgk⟩ : ∃ gk, g k = gk := ⟨_, rfl⟩
      have HCC := Lib.hid (hgk ▸ HF.out k i hx hi wr hbw A' c' hr : Calls Tryz.prog f (#[.agg #[.slice A' (t.world i).n c']] ++ cs) wr fun e w'' => e = .returned (.int .i64 gk) ∧ Below wr.heap.size wr w'')
      have HGK := Lib.hid hgk
      have k1 : (k : Int) < (n : Int) := by omega
      have i1 : (i : Int) < (t.nw : Int) := by omega
      have i0 : (0 : Int) ≤ (i : Int) := by omega
      subst hA
      clear hrow hct hcell hr hgk hx hbw
      go_wp2_with fail
      refine HCC.out.mono ?_
      rintro e w4 ⟨rfl, hb4⟩
      have HX4 := Lib.hid (HX.out.mono hb4)
      have HZ4 := Lib.hid (fun o => (hb4.frozen (p := ⟨w.heap.size + 1, o, none⟩) HX.out.lt).trans (HZ.out o))
      have HO4 := Lib.hid (HO.out.mono hb4)
      have HL4 := Lib.hid (HL.out.trans (hb4.mono (by omega)))
      have u0 := HX4.out.lt
      have u1 := HX4.out.cell 0 _ rfl
      have u2 := HX4.out.cell 1 _ rfl
      have f0 := HZ4.out 0
      have f1 := HZ4.out 1
      clear hb4 c0 d0 y1 x1 hbs hb2
      rcases Nat.eq_zero_or_pos k with h0 | hpos
      · have k2 : ((k : Int) = 0) = True := by simp; omega
        have HR := Lib.hid (show spanN g (k + 1) = (gk, gk) by rw [h0, ← HGK.out, h0]; rfl)
        have g1 : ¬ gk < gk := by omega
        go_wp2_with fail
        go_roundw
        case rel =>
          have HB5 := ((HX4.out.put2 (.int .i64 gk) (.int .i64 gk)).put2 (.int .i64 gk) (.int .i64 gk))
          have hs1 : (spanN g (k + 1)).1 = gk := by rw [HR.out]
          have hs2 : (spanN g (k + 1)).2 = gk := by rw [HR.out]
          refine ⟨k + 1, ?_, by have := HN.out; omega, ?_, (frz_set (frz_set (frz_set (frz_set HZ4.out _ _) _ _) _ _) _ _), ((((HO4.out.set (b := w.heap.size + 1) (by omega) 0 (.int .i64 gk)).set (b := w.heap.size + 1) (by omega) 1 (.int .i64 gk)).set (b := w.heap.size + 1) (by omega) 0 (.int .i64 gk)).set (b := w.heap.size + 1) (by omega) 1 (.int .i64 gk)), (Below.setCell (p := ⟨w.heap.size + 1, 1, none⟩) (Below.setCell (p := ⟨w.heap.size + 1, 0, none⟩) (Below.setCell (p := ⟨w.heap.size + 1, 1, none⟩) (Below.setCell (p := ⟨w.heap.size + 1, 0, none⟩) HL4.out (by simp) (.int .i64 gk)) (by simp) (.int .i64 gk)) (by simp) (.int .i64 gk)) (by simp) (.int .i64 gk))⟩
          · go_num
          · rw [hs1, hs2]; exact HB5

        case measure => simp [intOf]; omega
      · have k2 : ((k : Int) = 0) = False := by simp; omega
        obtain ⟨m2, hm2⟩ : ∃ m2, (if gk < (spanN g k).1 then gk else (spanN g k).1) = m2 := ⟨_, rfl⟩
        obtain ⟨x2, hx2⟩ : ∃ x2, (if (spanN g k).2 < gk then gk else (spanN g k).2) = x2 := ⟨_, rfl⟩
        have HR := Lib.hid (show spanN g (k + 1) = (m2, x2) by
          obtain ⟨j, rfl⟩ : ∃ j, k = j + 1 := ⟨k - 1, by omega⟩
          rw [show spanN g (j + 1 + 1) = (min (spanN g (j + 1)).1 (g (j + 1)), max (spanN g (j + 1)).2 (g (j + 1))) from rfl, HGK.out, ← hm2, ← hx2]
          refine Prod.ext ?_ ?_
          · show min _ _ = _; split <;> omega
          · show max _ _ = _; split <;> omega)
        go_wp2_with fail
        go_roundw
        case rel =>
          have HB5 := (HX4.out.put2 (.int .i64 m2) (.int .i64 x2))
          have hs1 : (spanN g (k + 1)).1 = m2 := by rw [HR.out]
          have hs2 : (spanN g (k + 1)).2 = x2 := by rw [HR.out]
          refine ⟨k + 1, ?_, by have := HN.out; omega, ?_, (frz_set (frz_set HZ4.out _ _) _ _), ((HO4.out.set (b := w.heap.size + 1) (by omega) 0 (.int .i64 m2)).set (b := w.heap.size + 1) (by omega) 1 (.int .i64 x2)), (Below.setCell (p := ⟨w.heap.size + 1, 1, none⟩) (Below.setCell (p := ⟨w.heap.size + 1, 0, none⟩) HL4.out (by simp) (.int .i64 m2)) (by simp) (.int .i64 x2))⟩
          · go_num
          · rw [hs1, hs2]; exact HB5

        case measure => simp [intOf]; omega
    · obtain rfl : k = n := by omega
      have u1 := HX.out.cell 0 _ rfl
      have u2 := HX.out.cell 1 _ rfl
      have u0 := HX.out.lt
      have hA0 : w.heap.size < (w.alloc (.cells #[.int .i64 0, .int .i64 0] 43)).heap.size := by simp
      have v1 := fun o => (HL.out.cell (p := ⟨w.heap.size, o, none⟩) (by show w.heap.size < w.heap.size + 1; omega))
      have v2 := fun o => (HL.out.frozen (p := ⟨w.heap.size, o, none⟩) (by show w.heap.size < w.heap.size + 1; omega))
      have q0 := v1 0
      have q1 := v1 1
      have r0 := v2 0
      have r1 := v2 1
      simp [go_sem] at q0 q1 r0 r1
      go_wp2_with fail
      refine bodyPost_ret (v := .agg #[.int .i64 (spanN g t.leftL.length).1, .int .i64 (spanN g t.leftL.length).2]) (by simp [results, Tryz.results30, go_sem, HN.out, *]) rfl ⟨by rw [HN.out], ?_⟩
      exact Below.setCell (p := ⟨w.heap.size, 1, none⟩) (Below.setCell (p := ⟨w.heap.size, 0, none⟩) HBW.out (by simp) (.int .i64 (spanN g k).1)) (by simp) (.int .i64 (spanN g k).2)
end Go.Proofs.YtifkjnmnflhnoaaGreatDoor

namespace Go.Proofs.YtifkjnmnflhnoaaGreatDoor
open Go.RowKit Go.Sort
set_option maxHeartbeats 2000000 in
theorem fallC_any (A : Option Addr) (c a d : Nat) (m : Int) (x : Wd) (p q : Nat) (w : World) (ok : x.Ok m) (hp : (p : Int) < m) (hq : (q : Int) < m) (hr : RowsAt w A x) (ha : a < w.heap.size) (hca : w.cell? ⟨a, 0, none⟩ = some (.int .i64 p)) (hd : d < w.heap.size) (hcd : w.cell? ⟨d, 0, none⟩ = some (.int .i64 q)) :
    Calls Tryz.prog 31 #[.agg #[.slice A x.n c], .pointer (some ⟨a, 0, none⟩), .pointer (some ⟨d, 0, none⟩)] w fun e w' => e = .returned (.int .i64 (x.fall p q)) ∧ Below w.heap.size w w' := by
  obtain ⟨b', o', b'', o'', c'', n, v, rfl, a2, a3, a4, a5, hv, v0, v1, hn⟩ := ok.at hr (p := p) (q := q) (by omega) hp (by omega) hq
  rw [Int.toNat_natCast] at a3
  rw [Int.toNat_natCast] at a5
  rw [Int.toNat_natCast, Int.toNat_natCast] at hv
  have HV := Lib.hid (show x.fall p q = v from hv.symm)
  obtain ⟨r, hr2⟩ : ∃ r, x.n = r := ⟨_, rfl⟩
  have hxn := ok.n
  rw [hr2] at hxn ⊢
  have p1 : (p : Int) < (r : Int) := by omega
  have p0 : (0 : Int) ≤ (p : Int) := by omega
  have q1 : (q : Int) < (n : Int) := by omega
  have q0 : (0 : Int) ≤ (q : Int) := by omega
  clear hv hn hxn hr2 hp hq ok hr
  go_enter Tryz.func31, Tryz.ntmps31
  go_wp2_with fail
  go_region
  go_wp2_with fail
  go_ret
  exact ⟨by rw [HV.out]; rfl, (bAlloc (Below.refl _ _) _).drew⟩
/-- the numbers of a list -/
def numAt (l : List Int) (k : Nat) : Nat := (l[k]?.getD 0).toNat
theorem numAt_of {l : List Int} {k i : Nat} (h : l[k]? = some (i : Int)) : numAt l k = i := by unfold numAt; rw [h]; simp
/-- between what a fall is, of the worlds left -/
def Qt.between (t : Qt) (p q : Nat) : Int × Int := spanN (fun k => (t.world (numAt t.leftL k)).fall p q) t.leftL.length
/-- what is known of whether a fall is greater than a law -/
def harmK (s : Int × Int) (law : Int) : Int := if law < s.1 then 1 else if s.2 ≤ law then 2 else 3
end Go.Proofs.YtifkjnmnflhnoaaGreatDoor

namespace Go.Proofs.YtifkjnmnflhnoaaGreatDoor
/-- a test: two wells -/
abbrev Tp := Nat × Nat
end Go.Proofs.YtifkjnmnflhnoaaGreatDoor

namespace Go.Proofs.YtifkjnmnflhnoaaGreatDoor
open Go.RowKit Go.Sort
def intL0 (L : List Int) (k : Nat) : Int := L[k]?.getD 0
theorem intL0_mem {L : List Int} {k : Nat} (h : k < L.length) : intL0 L k ∈ L := by
  unfold intL0
  rw [List.getElem?_eq_getElem h]
  exact List.getElem_mem h
theorem mem_intL0 {L : List Int} {x : Int} (h : x ∈ L) : ∃ k, k < L.length ∧ intL0 L k = x := by
  obtain ⟨k, hk, he⟩ := List.getElem_of_mem h
  exact ⟨k, hk, by unfold intL0; rw [List.getElem?_eq_getElem hk]; exact he⟩
/-- what a test shows in a world -/
def Qt.F (t : Qt) (i : Int) (x : Tp) : Int := (t.world i.toNat).fall x.1 x.2
/-! ### How many tests are enough -/
end Go.Proofs.YtifkjnmnflhnoaaGreatDoor

namespace Go.Proofs.YtifkjnmnflhnoaaGreatDoor
open Go.RowKit Go.Sort
theorem spanN_le {g : Nat → Int} {v : Int} : ∀ {n : Nat}, 0 < n → ((spanN g n).2 ≤ v ↔ ∀ i, i < n → g i ≤ v)
  | 0, h => by omega
  | 1, _ => by
    constructor
    · intro h i hi
      obtain rfl : i = 0 := by omega
      exact h
    · intro h
      exact h 0 (by omega)
  | n + 2, _ => by
    have ih := spanN_le (g := g) (v := v) (n := n + 1) (by omega)
    have e : (spanN g (n + 2)).2 = max (spanN g (n + 1)).2 (g (n + 1)) := rfl
    rw [e]
    constructor
    · intro h i hi
      rcases Nat.lt_or_ge i (n + 1) with h1 | h1
      · exact ih.1 (by omega) i h1
      · obtain rfl : i = n + 1 := by omega
        omega
    · intro h
      have h1 := ih.2 fun i hi => h i (by omega)
      have h2 := h (n + 1) (by omega)
      omega
theorem spanN_ge {g : Nat → Int} {v : Int} : ∀ {n : Nat}, 0 < n → (v ≤ (spanN g n).1 ↔ ∀ i, i < n → v ≤ g i)
  | 0, h => by omega
  | 1, _ => by
    constructor
    · intro h i hi
      obtain rfl : i = 0 := by omega
      exact h
    · intro h
      exact h 0 (by omega)
  | n + 2, _ => by
    have ih := spanN_ge (g := g) (v := v) (n := n + 1) (by omega)
    have e : (spanN g (n + 2)).1 = min (spanN g (n + 1)).1 (g (n + 1)) := rfl
    rw [e]
    constructor
    · intro h i hi
      rcases Nat.lt_or_ge i (n + 1) with h1 | h1
      · exact ih.1 (by omega) i h1
      · obtain rfl : i = n + 1 := by omega
        omega
    · intro h
      have h1 := ih.2 fun i hi => h i (by omega)
      have h2 := h (n + 1) (by omega)
      omega
/-- between what a number of some worlds is -/
def spanOf (f : Int → Int) (L : List Int) : Int × Int := spanN (fun k => f (intL0 L k)) L.length
theorem spanOf_le {f : Int → Int} {L : List Int} {v : Int} (h : L ≠ []) : (spanOf f L).2 ≤ v ↔ ∀ a, a ∈ L → f a ≤ v := by
  unfold spanOf
  rw [spanN_le (List.length_pos_iff.2 h)]
  exact ⟨fun h a ha => by obtain ⟨i, hi, rfl⟩ := mem_intL0 ha; exact h i hi, fun h i hi => h _ (intL0_mem hi)⟩
theorem spanOf_ge {f : Int → Int} {L : List Int} {v : Int} (h : L ≠ []) : v ≤ (spanOf f L).1 ↔ ∀ a, a ∈ L → v ≤ f a := by
  unfold spanOf
  rw [spanN_ge (List.length_pos_iff.2 h)]
  exact ⟨fun h a ha => by obtain ⟨i, hi, rfl⟩ := mem_intL0 ha; exact h i hi, fun h i hi => h _ (intL0_mem hi)⟩
theorem spanOf_in {f : Int → Int} {L : List Int} {a : Int} (ha : a ∈ L) : (spanOf f L).1 ≤ f a ∧ f a ≤ (spanOf f L).2 :=
  ⟨(spanOf_ge (List.ne_nil_of_mem ha)).1 (Int.le_refl _) a ha, (spanOf_le (List.ne_nil_of_mem ha)).1 (Int.le_refl _) a ha⟩
theorem spanOf_order {f : Int → Int} {L : List Int} (h : L ≠ []) : (spanOf f L).1 ≤ (spanOf f L).2 := by
  obtain ⟨a, ha⟩ := List.exists_mem_of_ne_nil L h
  have := spanOf_in (f := f) ha
  omega
theorem between_of (t : Qt) (p q : Nat) : t.between p q = spanOf (fun a => t.F a (p, q)) t.leftL := rfl
/-! ### What is known -/
/-! ### Draws -/
end Go.Proofs.YtifkjnmnflhnoaaGreatDoor

namespace Go.Proofs.YtifkjnmnflhnoaaGreatDoor
open Go.RowKit Go.Sort
theorem sameInts_any (A B : Option Addr) (n m c c' : Nat) (f g : Nat → Int) (w : World) (hn : n ≤ 9223372036854775807) (hm : m ≤ 9223372036854775807) (hf : IntsAt w A n f) (hg : IntsAt w B m g) :
    Calls Tryz.prog 27 #[.slice A n c, .slice B m c'] w fun e w' => e = .returned (.bool (decide (n = m) && !anyB (fun i => f i != g i) n)) ∧ Below w.heap.size w w' := by
  have HF := Lib.hid hf
  have HG := Lib.hid hg
  clear hf hg
  by_cases he : n = m
  · subst he
    go_enter Tryz.func27, Tryz.ntmps27
    go_wp2_with fail
    go_loopw [5] (fun i wr => ∃ k : Nat, k ≤ n ∧ i = .int .i64 k ∧ anyB (fun i => f i != g i) k = false ∧ Below w.heap.size w wr) (fun i _ => n - (intOf i).toNat)
    case atStart => exact ⟨0, Nat.zero_le _, rfl, rfl, Below.refl _ _⟩
    case round =>
      obtain ⟨k, hk, rfl, hno, hbel⟩ := hrel
      have HN := Lib.hid hno
      clear hno
      by_cases hlt : k < n
      · rcases HF.out.mono hbel with h0 | ⟨b, o, hA, hb, hcell⟩
        · omega
        have c0 := hcell k hlt
        clear hcell
        subst hA
        rcases HG.out.mono hbel with h0 | ⟨b2, o2, hA2, hb2, hcell2⟩
        · omega
        have c2 := hcell2 k hlt
        clear hcell2
        subst hA2
        cases hd : (f k != g k)
        all_goals
          go_wp2_with fail
          refine wp_region_quiet_below (by kernel_rfl) (by kernel_rfl) ?_
          repeat (go_big_quiet_step ((fail)))
          refine wpQuiet_nil ?_
          intro w3 hw3
          have hb3 := below_of_regrown hw3
          clear hw3
          go_wp2_with fail
        · go_roundw
          case rel => exact ⟨k + 1, by omega, by go_num, anyB_step HN.out hd, bTrans hbel hb3⟩
          case measure => simp [intOf]; omega
        · go_ret
          exact ⟨ret_bool (by rw [anyB_hit hlt hd]; simp), bTrans hbel hb3⟩
      · obtain rfl : k = n := by omega
        go_wp2_with fail
        go_ret
        exact ⟨ret_bool (by rw [HN.out]; simp), hbel⟩
  · have hne : ((n : Int) == (m : Int)) = false := by simp; omega
    have hne2 : ((n : Int) != (m : Int)) = true := by simp; omega
    go_enter Tryz.func27, Tryz.ntmps27
    go_wp2_with fail
    all_goals
      go_ret
      exact ⟨ret_bool (by simp [he]), Below.refl _ _⟩
end Go.Proofs.YtifkjnmnflhnoaaGreatDoor

namespace Go.Proofs.YtifkjnmnflhnoaaGreatDoor
open Go.RowKit Go.Sort
/-- far too much of something -/
def Wd.huge (x : Wd) : Bool := decide (40 < x.n) || anyB (fun k => decide (40 < x.len k)) x.n
def Qt.huge (t : Qt) : Bool := decide (40 < t.nw) || decide (40 < t.nf) || anyB (fun i => (t.world i).huge) t.nw
set_option maxHeartbeats 4000000 in
set_option maxRecDepth 100000 in
theorem huge_any (Aw Af : Option Addr) (cw cf : Nat) (t : Qt) (w : World) (hs : t.Small) (hT : QAt w Aw Af t) :
    Calls Tryz.prog 5 #[.agg #[.int .i64 t.wells, .slice Aw t.nw cw, .slice Af t.nf cf]] w fun e w' => e = .returned (.bool t.huge) ∧ Below w.heap.size w w' := by
  have hb0 := bAlloc (Below.refl w.heap.size w) (.cells #[.int .i64 t.wells, .slice Aw t.nw cw, .slice Af t.nf cf] 25)
  have HT := Lib.hid (hT.mono hb0)
  have HB := Lib.hid hb0
  have HS := Lib.hid hs
  clear hT hb0 hs
  by_cases h1 : 40 < t.nw
  · have HH := Lib.hid (show t.huge = true by unfold Qt.huge; simp [h1])
    have g1 : decide ((t.nw : Int) > 40) = true := by simp; omega
    have g2 : (40 : Int) < (t.nw : Int) := by omega
    go_enter Tryz.func5, Tryz.ntmps5
    go_wp2_with fail
    go_ret
    exact ⟨ret_bool (by rw [HH.out]), HB.out⟩
  have g1 : decide ((t.nw : Int) > 40) = false := by simp; omega
  have g2 : ¬ (40 : Int) < (t.nw : Int) := by omega
  by_cases h2 : 40 < t.nf
  · have HH := Lib.hid (show t.huge = true by unfold Qt.huge; simp [h2])
    have g3 : (40 : Int) < (t.nf : Int) := by omega
    go_enter Tryz.func5, Tryz.ntmps5
    go_wp2_with fail
    go_ret
    exact ⟨ret_bool (by rw [HH.out]), HB.out⟩
  have g3 : ¬ (40 : Int) < (t.nf : Int) := by omega
  have g4 : decide ((t.nf : Int) > 40) = false := by simp; omega
  have g5 : decide ((40 : Int) < (t.nf : Int)) = false := by simp; omega
  have g6 : decide ((40 : Int) < (t.nw : Int)) = false := by simp; omega
  have HH := Lib.hid (show t.huge = anyB (fun i => (t.world i).huge) t.nw by unfold Qt.huge; simp [h1, h2])
  have H1 := Lib.hid (show t.nw ≤ 40 by omega)
  clear h1 h2
  go_enter Tryz.func5, Tryz.ntmps5
  go_wp2_with fail
  go_loopw [3] (fun s3 wr => ∃ i : Nat, i ≤ t.nw ∧ s3 = .int .i64 i ∧ anyB (fun i => (t.world i).huge) i = false ∧ Below (w.alloc (.cells #[.int .i64 t.wells, .slice Aw t.nw cw, .slice Af t.nf cf] 25)).heap.size (w.alloc (.cells #[.int .i64 t.wells, .slice Aw t.nw cw, .slice Af t.nf cf] 25)) wr) (fun s3 _ => t.nw - (intOf s3).toNat)
  case atStart => exact ⟨0, Nat.zero_le _, rfl, rfl, Below.refl _ _⟩
  case round =>
    obtain ⟨i, hi, rfl, hno, hbel⟩ := hrel
    have HN := Lib.hid hno
    have HL := Lib.hid hbel
    obtain ⟨bc3, bf3⟩ := bcell hbel
    have hz3 := hbel.size
    simp only [World.size_alloc] at hz3
    have hy3 : w.heap.size < wr.heap.size := hz3
    clear hbel hno
    by_cases hlt : i < t.nw
    · rcases (HT.out.mono HL.out).worlds with h0 | ⟨b, o, hA, hb, hcell⟩
      · omega
      obtain ⟨A', c', c0, hrow, hlen⟩ := hcell i hlt
      have HROW := Lib.hid hrow
      have i1 : (i : Int) < (t.nw : Int) := by omega
      have i0 : i ≤ 40 := by have := H1.out; omega
      obtain ⟨n, hn⟩ : ∃ n, (t.world i).n = n := ⟨_, rfl⟩
      rw [hn] at c0
      have HXN := Lib.hid hn
      clear hcell hrow hlen
      subst hA
      by_cases h3 : 40 < n
      · have HX := Lib.hid (show t.huge = true by rw [HH.out]; exact anyB_hit hlt (by unfold Wd.huge; rw [hn]; simp [h3]))
        have g7 : (40 : Int) < (n : Int) := by omega
        clear hn
        go_wp2_with fail
        go_ret
        exact ⟨ret_bool (by rw [HX.out]), bTrans HB.out HL.out⟩
      · have g7 : ¬ (40 : Int) < (n : Int) := by omega
        have g8 : decide ((40 : Int) < (n : Int)) = false := by simp; omega
        have n40 : n ≤ 40 := by omega
        have HY := Lib.hid (show (t.world i).huge = anyB (fun k => decide (40 < (t.world i).len k)) n by unfold Wd.huge; rw [hn]; simp [h3])
        clear hn h3
        go_wp2_with fail
        go_loopw [4] (fun s4 wx => ∃ k : Nat, k ≤ n ∧ s4 = .int .i64 k ∧ anyB (fun k => decide (40 < (t.world i).len k)) k = false ∧ wx = wr) (fun s4 _ => n - (intOf s4).toNat)
        case atStart => exact ⟨0, Nat.zero_le _, rfl, rfl, rfl⟩
        case round =>
          obtain ⟨k, hk, rfl, hno, rfl⟩ := hrel
          have HK := Lib.hid hno
          clear hno
          by_cases hlk : k < n
          · rcases HROW.out with h0 | ⟨b', o', hA, hb', hc'⟩
            · have := HXN.out
              omega
            obtain ⟨A'', c'', h3, _, h5⟩ := hc' k (by rw [HXN.out]; exact hlk)
            have k1 : (k : Int) < (n : Int) := by omega
            have k0 : (0 : Int) ≤ (k : Int) := by omega
            clear hc'
            subst hA
            obtain ⟨l, hl⟩ : ∃ l, (t.world i).len k = l := ⟨_, rfl⟩
            rw [hl] at h3 h5
            have HLL := Lib.hid hl
            clear hl
            by_cases h4 : 40 < l
            · have HX := Lib.hid (show t.huge = true by rw [HH.out]; refine anyB_hit hlt ?_; rw [HY.out]; exact anyB_hit hlk (by rw [HLL.out]; simp [h4]))
              have g9 : (40 : Int) < (l : Int) := by omega
              go_wp2_with fail
              go_ret
              exact ⟨ret_bool (by rw [HX.out]), bTrans HB.out HL.out⟩
            · have HX := Lib.hid (anyB_step HK.out (show (fun k => decide (40 < (t.world i).len k)) k = false by simp only [HLL.out]; simpa using h4))
              have g9 : ¬ (40 : Int) < (l : Int) := by omega
              go_wp2_with fail
              go_roundw
              case rel =>
                first
                | exact ⟨k + 1, by omega, by go_num, HX.out, by trivial⟩
                | ((repeat apply Exists.intro)
                   refine ⟨⟨k + 1, by omega, ?_, HX.out, rfl⟩, rfl⟩
                   go_num)
              case measure => simp [intOf]; omega
          · obtain rfl : k = n := by omega
            have HX := Lib.hid (anyB_step HN.out (show (fun i => (t.world i).huge) i = false by simp only [HY.out]; exact HK.out))
            have k1 : ¬ (k : Int) < (k : Int) := by omega
            go_wp2_with fail
            go_roundw
            case rel =>
              first
              | exact ⟨i + 1, by omega, by go_num, HX.out, HL.out⟩
              | ((repeat apply Exists.intro)
                 refine ⟨⟨i + 1, by omega, ?_, HX.out, HL.out⟩, rfl⟩
                 go_num)
            case measure => simp [intOf]; omega
    · obtain rfl : i = t.nw := by omega
      have HX := Lib.hid (show t.huge = false by rw [HH.out]; exact HN.out)
      go_wp2_with fail
      go_ret
      exact ⟨ret_bool (by rw [HX.out]), bTrans HB.out HL.out⟩
end Go.Proofs.YtifkjnmnflhnoaaGreatDoor

namespace Go.Proofs.YtifkjnmnflhnoaaGreatDoor
open Go.RowKit Go.Sort
section
variable {P : Program} {ops : Array Oper} {md : Region.Mode}
/-- whether operation j waits for operation i, over others too -/
def ancB (md : Region.Mode) (ops : Array Oper) : Nat → Nat → Nat → Bool
  | 0, j, i => waits md ops j i
  | f + 1, j, i => waits md ops j i || (List.range ops.size).any fun k => decide (i < k) && waits md ops j k && ancB md ops f k i
theorem Shut.anc {listed : Array Bool} (hs : Shut md ops listed) : ∀ (f j i : Nat), listed.getD j false = true → ancB md ops f j i = true → listed.getD i false = true
  | 0, j, i, h1, h2 => hs.shut j i h1 h2
  | f + 1, j, i, h1, h2 => by
    unfold ancB at h2
    rw [Bool.or_eq_true] at h2
    rcases h2 with h2 | h2
    · exact hs.shut j i h1 h2
    · obtain ⟨k, _, h3⟩ := List.any_eq_true.1 h2
      simp only [Bool.and_eq_true] at h3
      exact Shut.anc hs f k i (hs.shut j k h1 h3.1.2) h3.2
theorem anc_listed {listed : Array Bool} (hs : Shut md ops listed) {j : Nat} (hr : j ∈ Region.ready md ops listed) : ∀ (f i : Nat), ancB md ops f j i = true → listed.getD i false = true
  | 0, i, h => waits_listed hr h
  | f + 1, i, h => by
    unfold ancB at h
    rw [Bool.or_eq_true] at h
    rcases h with h2 | h2
    · exact waits_listed hr h2
    · obtain ⟨k, _, h3⟩ := List.any_eq_true.1 h2
      simp only [Bool.and_eq_true] at h3
      exact hs.anc f k i (waits_listed hr h3.1.2) h3.2
def pivotB (md : Region.Mode) (ops : Array Oper) (n : Nat) : Bool := orderedB md ops && decide (n < ops.size) && (List.range ops.size).all fun i => (!decide (i < n) || ancB md ops ops.size n i) && (!decide (n < i) || ancB md ops ops.size i n)
theorem frameOf_slot2 {V V' : Nat → Value} {L M : Nat → Bool} {a : Act} {t : Tmp} {i : Nat}
    (hlow : ∀ k, k < i → dstOf ops k = some t → L k = M k ∧ (L k = true → V k = V' k)) : ∀ k, k ≤ i → (frameOf ops V L a k).tmps[t]? = (frameOf ops V' M a k).tmps[t]?
  | 0, _ => rfl
  | k + 1, h => by
    have ih := frameOf_slot2 (a := a) hlow k (by omega)
    unfold frameOf
    by_cases hd : dstOf ops k = some t
    · obtain ⟨h1, h3⟩ := hlow k (by omega) hd
      by_cases h2 : L k = true
      · rw [if_pos h2, if_pos (h1 ▸ h2), hd, h3 h2]
        exact put_eq (by simp [frameOf_size]) _
      · rw [if_neg h2, if_neg (h1 ▸ h2)]
        exact ih
    · by_cases h1 : L k = true <;> by_cases h2 : M k = true <;> simp only [h1, h2, if_true, if_false, Bool.false_eq_true, put_ne hd] <;> exact ih
theorem Ordered.sees2 (h : Ordered md ops) {V : Nat → Value} {n : Nat} {a : Act} {listed : Array Bool} (hs : Shut md ops listed) {i : Nat} {o : Oper} (ho : ops[i]? = some o) (hr : i ∈ Region.ready md ops listed) :
    ∀ t, t ∈ o.looksAt ops → (frameOf ops V (fun k => listed.getD k false && !decide (k ≤ n)) a ops.size).tmps[t]? = (frameOf ops V (fun k => !decide (k ≤ n)) a i).tmps[t]? := by
  intro t ht
  have hi : i < ops.size := (Array.getElem?_eq_some_iff.1 ho).1
  have hun := listed_both (mem_ready.1 hr).1
  have hlk := looks_of ho ht
  rw [frameOf_slot_up (i := i) (fun k hk hl hd => ?_) ops.size (by omega), frameOf_slot2 (V' := V) (M := fun k => !decide (k ≤ n)) (i := i) (fun k hk hd => ?_) i (Nat.le_refl i)]
  · refine ⟨?_, fun _ => rfl⟩
    rcases h.apart k i hk hi with hw | ⟨h1, _⟩
    · rw [waits_listed hr hw, Bool.true_and]
    · rw [(h1 t hd).1] at hlk; cases hlk
  · have hl1 : listed.getD k false = true := by
      simp only [Bool.and_eq_true] at hl
      exact hl.1
    have hkn : k < ops.size := by
      simp only [dstOf] at hd
      rcases Nat.lt_or_ge k ops.size with h' | h'
      · exact h'
      · simp [Array.getElem?_eq_none h'] at hd
    have hne : i ≠ k := fun e => by subst e; rw [hun] at hl1; cases hl1
    rcases h.apart i k (by omega) hkn with hw | ⟨_, h2⟩
    · have := hs.shut k i hl1 hw; rw [hun] at this; cases this
    · rw [h2 t hd] at hlk; cases hlk
theorem Ordered.frame_put2 (h : Ordered md ops) {V : Nat → Value} {n : Nat} {a : Act} {listed : Array Bool} (hs : Shut md ops listed) {i : Nat} (hi : i < ops.size) (hn : n < i) (hun : listed.getD i true = false) :
    frameOf ops V (fun k => (listed.setIfInBounds i true).getD k false && !decide (k ≤ n)) a ops.size = (frameOf ops V (fun k => listed.getD k false && !decide (k ≤ n)) a ops.size).put (dstOf ops i) (V i) := by
  have hl := listed_both hun
  refine frameOf_put hi (by simp only [hl, Bool.false_and]) (by simp only [set_same (by rw [hs.size]; exact hi) false, Bool.true_and, Bool.not_eq_true', decide_eq_false_iff_not]; omega) (fun k hk => by simp only [getD_set_ne false (Ne.symm hk)]) (fun k d hk hlk0 hd hdk => ?_)
  have hlk : listed.getD k false = true := by
    simp only [Bool.and_eq_true] at hlk0
    exact hlk0.1
  have hkn : k < ops.size := by
    simp only [dstOf] at hdk
    rcases Nat.lt_or_ge k ops.size with h' | h'
    · exact h'
    · simp [Array.getElem?_eq_none h'] at hdk
  rcases h.apart i k hk hkn with hw | ⟨h1, _⟩
  · have := hs.shut k i hlk hw; rw [hl] at this; cases this
  · exact (h1 d hd).2 hdk
theorem frameOf_none {V : Nat → Value} {L : Nat → Bool} {a : Act} (h : ∀ k, L k = false) : ∀ k, frameOf ops V L a k = a
  | 0 => rfl
  | k + 1 => by unfold frameOf; rw [h k]; exact frameOf_none h k
theorem wpOp_at {Q : Exit → Act → World → Prop} {K : Act → World → Prop} {i : Nat} {o : Oper} {a : Act} {w : World} (ho : ops[i]? = some o) (hw : Region.wanted o (yielded ops a.tmps) = true) (h : o.wp P a w K Q) : wpOp P ops Q i K a w := by
  unfold wpOp
  simp only [ho, hw, if_true]
  exact .inl h
theorem wp_region_pivot {id : Nat} {Q : Exit → Act → World → Prop} {a : Act} {w : World} {l : List Oper} {o : Oper} (n : Nat) (hm : P.follows .mixedOrders = true) (hB : pivotB .any l.toArray n = true) (ho : l[n]? = some o)
    (h : wpCalm P l.toArray w (fun k => decide (n ≤ k)) (fun a' => ∀ w', Below w.heap.size w w' → wpOp P l.toArray Q n (fun a1 w1 => wpCalm P l.toArray w1 (fun k => decide (k ≤ n)) (fun a3 => ∀ w3, Below w1.heap.size w1 w3 → Q .normal a3 w3) 0 l a1) a' w') 0 l a) : (Code.region id l.toArray true).wp P Q a w := by
  unfold pivotB at hB
  simp only [Bool.and_eq_true, decide_eq_true_eq, List.all_eq_true, List.mem_range, Bool.or_eq_true, Bool.not_eq_true', decide_eq_false_iff_not] at hB
  obtain ⟨⟨hord, hsz⟩, hall⟩ := hB
  have H := ordered_of hord
  have hon : l.toArray[n]? = some o := by simpa using ho
  have hpre : ∀ i, i < n → ancB .any l.toArray l.toArray.size n i = true := fun i hi => ((hall i (by omega)).1).resolve_left (by omega)
  have hsuf : ∀ i, n < i → i < l.toArray.size → ancB .any l.toArray l.toArray.size i n = true := fun i hi hs => ((hall i hs).2).resolve_left (by omega)
  obtain ⟨V, _, hval, hQ⟩ := wpCalm_values a l 0 (fun _ => undef) (fun j => by simp) h
  refine wp_region_any hm ?_
  refine wpAny_inv (fun listed a' w' => (listed.getD n true = false → a' = frameOf l.toArray V (fun k => listed.getD k false) a l.toArray.size ∧ Below w.heap.size w w') ∧
    (listed.getD n true = true → ∃ (a1 : Act) (w1 : World) (V2 : Nat → Value), (∀ j o, 0 ≤ j → j < 0 + l.length → l.toArray[j]? = some o → decide (j ≤ n) = false → CalmAt P l.toArray w1 o (frameOf l.toArray V2 (fun k => !decide (k ≤ n)) a1 j) (V2 j)) ∧
      (∀ w3, Below w1.heap.size w1 w3 → Q .normal (frameOf l.toArray V2 (fun k => !decide (k ≤ n)) a1 (0 + l.length)) w3) ∧ a' = frameOf l.toArray V2 (fun k => listed.getD k false && !decide (k ≤ n)) a1 l.toArray.size ∧ Below w1.heap.size w1 w')) ?_ ?_ _ _ _ _ (left_le _ _) Shut.none ⟨fun _ => ⟨?_, (Below.refl _ _).drew⟩, fun hn => ?_⟩
  · intro listed a' w' i hs hI hr
    obtain ⟨hun, oi, hoi, _⟩ := mem_ready.1 hr
    have hi : i < l.toArray.size := (Array.getElem?_eq_some_iff.1 hoi).1
    rcases Nat.lt_trichotomy i n with hin | hin | hin
    · -- before
      have hn : listed.getD n true = false := by
        cases hn : listed.getD n true with
        | false => rfl
        | true =>
          have hnl : listed.getD n false = true := by
            have : n < listed.size := by rw [hs.size]; omega
            simp [this] at hn ⊢; exact hn
          have := hs.anc _ n i hnl (hpre i hin)
          rw [listed_both hun] at this; cases this
      obtain ⟨rfl, hb⟩ := hI.1 hn
      refine CalmAt.wpOp hoi (fun cs b => Region.noSelect_spec H.sel i oi cs b hoi) (hval i oi (Nat.zero_le _) (by simpa using hi) hoi (by simp; omega)) hb (H.sees hs hoi hr (fun k hk hk2 d hd => ?_) (fun _ _ => rfl)) (fun w'' hb' => ⟨fun hn' => ⟨?_, bTrans hb hb'⟩, fun hn' => ?_⟩)
      · simp at hk2; omega
      · have e1 : dstOf l.toArray i = oi.dst := by simp [dstOf, hoi]
        rw [H.frame_put hs hi hun, e1]
      · rw [getD_set_ne true (by omega)] at hn'
        rw [hn] at hn'; cases hn'
    · -- the pivot
      subst hin
      obtain ⟨rfl, hb⟩ := hI.1 hun
      obtain rfl : o = oi := Option.some.inj (hon.symm.trans hoi)
      have hfr : frameOf l.toArray V (fun k => listed.getD k false) a l.toArray.size = frameOf l.toArray V (fun k => !decide (i ≤ k)) a (0 + l.length) := by
        have hsz' : l.toArray.size = 0 + l.length := by simp
        rw [← hsz']
        refine frameOf_congr _ (fun j hj => ⟨?_, fun _ => rfl⟩)
        by_cases e : i ≤ j
        · simp only [e, decide_true, Bool.not_true]
          rcases Nat.eq_or_lt_of_le e with rfl | e
          · exact listed_both hun
          · cases hlj : listed.getD j false with
            | false => rfl
            | true =>
              have := hs.anc _ j i hlj (hsuf j e hj)
              rw [listed_both hun] at this; cases this
        · simp only [e, decide_false, Bool.not_false]
          exact anc_listed hs hr _ j (hpre j (by omega))
      have hq := hQ w' hb
      rw [← hfr] at hq
      have hset : (listed.setIfInBounds i true).getD i true = true := set_same (by rw [hs.size]; exact hi) true
      refine wpOp_mono (fun a1 w1 h1 => ⟨fun e => (by rw [hset] at e; cases e), fun _ => ?_⟩) hq
      have h0 : ∀ V0 : Nat → Value, frameOf l.toArray V0 (fun j => !decide (j ≤ i)) a1 0 = a1 := fun _ => rfl
      obtain ⟨V2, _, hval2, hQ2⟩ := wpCalm_values a1 l 0 (fun _ => undef) (fun j => by simp) h1
      refine ⟨a1, w1, V2, hval2, hQ2, ?_, Below.refl _ _⟩
      refine (frameOf_none (fun k => ?_) _).symm
      by_cases e : k ≤ i
      · simp [e]
      · rw [getD_set_ne false (by omega)]
        cases hlj : listed.getD k false with
        | false => rfl
        | true =>
          have hks : k < l.toArray.size := by
            rcases Nat.lt_or_ge k l.toArray.size with h' | h'
            · exact h'
            · have : listed.size ≤ k := by rw [hs.size]; exact h'
              simp [Array.getD, Nat.not_lt.2 this] at hlj
          have := hs.anc _ k i hlj (hsuf k (by omega) hks)
          rw [listed_both hun] at this; cases this
    · -- behind
      have hn : listed.getD n true = true := by
        have h1 := anc_listed hs hr _ n (hsuf i hin hi)
        have : n < listed.size := by rw [hs.size]; omega
        simp [this] at h1 ⊢; exact h1
      obtain ⟨a1, w1, V2, hval2, hQ2, rfl, hb⟩ := hI.2 hn
      refine CalmAt.wpOp hoi (fun cs b => Region.noSelect_spec H.sel i oi cs b hoi) (hval2 i oi (Nat.zero_le _) (by simpa using hi) hoi (by simp; omega)) hb (H.sees2 hs hoi hr) (fun w'' hb' => ⟨fun hn' => ?_, fun _ => ⟨a1, w1, V2, hval2, hQ2, ?_, bTrans hb hb'⟩⟩)
      · rw [getD_set_ne true (by omega)] at hn'
        rw [hn] at hn'; cases hn'
      · have e1 : dstOf l.toArray i = oi.dst := by simp [dstOf, hoi]
        rw [H.frame_put2 hs hi hin hun, e1]
  · intro listed a' w' hs hI hr
    have hA := H.all hs hr
    have hn : listed.getD n true = true := by
      have := hA n hsz
      have hlt : n < listed.size := by rw [hs.size]; omega
      simp [hlt] at this ⊢; exact this
    obtain ⟨a1, w1, V2, _, hQ2, rfl, hb⟩ := hI.2 hn
    have := hQ2 w' hb
    have hsz' : l.toArray.size = 0 + l.length := by simp
    rw [← hsz'] at this
    rw [frameOf_congr (M := fun k => !decide (k ≤ n)) (V' := V2) _ (fun j hj => ⟨by rw [hA j hj, Bool.true_and], fun _ => rfl⟩)]
    exact this
  · refine (frameOf_none (fun k => ?_) _).symm
    rcases Nat.lt_or_ge k l.length with h' | h' <;> simp [h']
  · have : n < l.toArray.size := by omega
    simp at this
    simp [this] at hn
/-- the same, its parts apart: the continuation is a letter in each of them -/
theorem wp_region_call {id : Nat} {Q : Exit → Act → World → Prop} {a : Act} {w : World} {l : List Oper} {o : Oper} (n : Nat) (R : Value → World → Prop) (hm : P.follows .mixedOrders = true) (hB : pivotB .any l.toArray n = true) (ho : l[n]? = some o)
    (h : ∃ A1 : Act, (∀ K : Act → Prop, K A1 → wpCalm P l.toArray w (fun k => decide (n ≤ k)) K 0 l a) ∧ Region.wanted o (yielded l.toArray A1.tmps) = true ∧
      (∀ w', Below w.heap.size w w' → ∀ (K : Act → World → Prop) (Q' : Exit → Act → World → Prop), (∀ v w2, R v w2 → K (A1.put o.dst v) w2) → o.wp P A1 w' K Q') ∧
      ∀ v w2, R v w2 → ∃ A3 : Act, (∀ K : Act → Prop, K A3 → wpCalm P l.toArray w2 (fun k => decide (k ≤ n)) K 0 l (A1.put o.dst v)) ∧ ∀ w3, Below w2.heap.size w2 w3 → Q .normal A3 w3) : (Code.region id l.toArray true).wp P Q a w := by
  obtain ⟨A1, h1, hw, h2, h3⟩ := h
  refine wp_region_pivot n hm hB ho (h1 _ fun w' hb => ?_)
  refine wpOp_at (by simpa using ho) hw (h2 w' hb _ _ fun v w2 hr => ?_)
  obtain ⟨A3, ha, hq⟩ := h3 v w2 hr
  exact ha _ hq
end
theorem newer_of {P : Program} {f : Nat} {args : Array Value} {w : World} {v : Value} (h : Calls P f args w fun e w' => e = .returned v ∧ Below w.heap.size w w') : Calls P f args w fun e w' => e = .returned v ∧ Newer w w' := h
/-- the ways of a guard -/
theorem two_ways (b1 b2 : Bool) : b1 = false ∨ (b1 = true ∧ b2 = false) ∨ (b1 = true ∧ b2 = true) := by cases b1 <;> cases b2 <;> simp
end Go.Proofs.YtifkjnmnflhnoaaGreatDoor

namespace Go.Proofs.YtifkjnmnflhnoaaGreatDoor
open Go.RowKit Go.Sort
theorem AskOut.ret {w : World} {base : Nat} {Aw Af : Option Addr} {cw cf : Nat} {t : Qt} {er : Int} {e : Ending} (h : AskOut w base Aw Af cw cf t er e) : ∃ v, e = .returned v := by
  by_cases he : er = 0
  · obtain ⟨C, mp, h1, _⟩ := h.2 he
    exact ⟨_, h1⟩
  · exact ⟨_, h.1 he⟩
theorem AskOut.lower {w : World} {base base' : Nat} {Aw Af : Option Addr} {cw cf : Nat} {t : Qt} {er : Int} {e : Ending} (h : AskOut w base Aw Af cw cf t er e) (hb : base' ≤ base) : AskOut w base' Aw Af cw cf t er e :=
  ⟨h.1, fun he => by
    obtain ⟨C, mp, h1, h2, h3, h4, h5⟩ := h.2 he
    exact ⟨C, mp, h1, h2, Nat.le_trans hb h3, h4, Nat.le_trans hb h5⟩⟩
end Go.Proofs.YtifkjnmnflhnoaaGreatDoor

namespace Go.Proofs.YtifkjnmnflhnoaaGreatDoor
open Go.RowKit Go.Sort
/-- how an element lies in memory -/
structure Elem (α : Type) where
  enc : α → List Value
  size : Nat
  ty : TypeId
  sl : TypeId
  z : Value
  bytes : Nat
structure Elem.Good {α : Type} (E : Elem α) : Prop where
  info : (Tryz.prog.info? E.ty).map (fun i => (i.zero, i.size, i.bytes)) = some (some E.z, E.size, E.bytes)
  und : Tryz.prog.underlying E.sl = some (.slice E.ty)
  zs : E.z.cells.size = E.size
  pos : 0 < E.size
  len : ∀ x, (E.enc x).length = E.size
  one : ∀ x, ∀ u ∈ E.enc x, u.oneCell' = true
  by_ : E.bytes ≤ 1000000
def Elem.cells {α : Type} (E : Elem α) (l : List α) : List Value := l.flatMap E.enc
theorem Elem.cells_len {α : Type} {E : Elem α} (g : E.Good) : ∀ l : List α, (E.cells l).length = l.length * E.size
  | [] => by simp [Elem.cells]
  | x :: l => by
    have ih := Elem.cells_len g l
    unfold Elem.cells at ih ⊢
    rw [List.flatMap_cons, List.length_append, g.len, ih, List.length_cons, Nat.succ_mul, Nat.add_comm]
theorem Elem.cells_get {α : Type} {E : Elem α} (g : E.Good) : ∀ {l : List α} {j : Nat} {x : α} (i : Nat), l[j]? = some x → i < E.size → (E.cells l)[j * E.size + i]? = (E.enc x)[i]?
  | [], j, x, i, h, _ => by simp at h
  | y :: l, 0, x, i, h, hi => by
    obtain rfl : y = x := by simpa using h
    unfold Elem.cells
    rw [List.flatMap_cons, Nat.zero_mul, Nat.zero_add, List.getElem?_append_left (by rw [g.len]; exact hi)]
  | y :: l, j + 1, x, i, h, hi => by
    have ih := Elem.cells_get g (l := l) (j := j) (x := x) i (by simpa using h) hi
    unfold Elem.cells at ih ⊢
    rw [List.flatMap_cons, List.getElem?_append_right (by rw [g.len, Nat.succ_mul]; omega), g.len, Nat.succ_mul, show j * E.size + E.size + i - E.size = j * E.size + i by omega]
    exact ih
/-- a slice of the call's own that holds a list -/
def OwnE {α : Type} (E : Elem α) (w : World) (base : Nat) (v : Value) (l : List α) : Prop := w.ownsRow base E.ty E.size v l.length (E.cells l)
section
variable {α : Type} {E : Elem α} {w w' : World} {base : Nat} {v : Value} {l : List α}
theorem OwnE.nil (E : Elem α) (w : World) (base : Nat) : OwnE E w base (.slice none 0 0) [] := World.ownsRow_nil _ _ _ _
theorem OwnE.mono (h : OwnE E w base v l) (hb : Below w.heap.size w w') : OwnE E w' base v l := owns_below h hb
theorem OwnE.lower {base' : Nat} (h : OwnE E w base v l) (hb : base' ≤ base) : OwnE E w base' v l := owns_lower h hb
/-- a slice that reads as a list -/
def SliceE (E : Elem α) (w : World) (v : Value) (l : List α) : Prop := ∃ A c, v = .slice A l.length c ∧ RowAt w A (E.cells l)
theorem OwnE.read (h : OwnE E w base v l) : SliceE E w v l := by
  rcases Nat.eq_zero_or_pos l.length with h0 | h0
  · obtain rfl := List.eq_nil_of_length_eq_zero h0
    rcases h.2 with ⟨rfl, _⟩ | ⟨g, cap, cur, rfl, _⟩
    · exact ⟨_, _, rfl, .inl rfl⟩
    · exact ⟨_, _, rfl, .inl rfl⟩
  · obtain ⟨A, c, e, hr⟩ := AtHand.row (N := base) (.inr ⟨h0, h⟩)
    exact ⟨A, c, e, hr⟩
/-- 'append(out, x)' -/
theorem wpList_snocE (g : E.Good) (w : World) {ops : Array Oper} {rest : List Oper} {o : Oper} {a : Act} {Q : Exit → Act → World → Prop} (hg : o.guard = none) (s x : Operand) (hop : o.op = Op.call { callee := Callee.builtin Builtin.append, args := #[s, x], argTypes := #[E.sl, E.sl] })
    (base : Nat) (v : Value) (l : List α) (y : α) (hs : a.eval s = v) (hown : OwnE E w base v l) (b : Nat) (hx : a.eval x = .slice (some ⟨b, 0, none⟩) 1 1) (hc : ∀ i u, (E.enc y)[i]? = some u → w.cell? ⟨b, i, none⟩ = some u) (hlen : l.length ≤ 100000) (hbase : base ≤ w.heap.size)
    (h : ∀ v' w', OwnE E w' base v' (l ++ [y]) → (∀ b0 W, b0 ≤ base → Below b0 W w → Below b0 W w') → w.grownBy w' v.ownBlock → v' ≠ .slice none 0 0 → wpList Tryz.prog ops Q rest (a.put o.dst v') w') : wpList Tryz.prog ops Q (o :: rest) a w := by
  obtain ⟨i0, hi, iz0, iz1, iz2⟩ := info_parts g.info
  refine wpList_append_own w hg s x E.sl hop base E.ty i0 E.z E.size E.bytes g.und hi iz0 iz1 iz2 g.zs g.pos v l.length (E.cells l) hs hown ⟨b, 0, none⟩ 1 1 (E.enc y) hx (by rw [g.len, Nat.one_mul]) (fun j u hj => ?_) (fun u hu => g.one y u hu) (by unfold maxLen; omega) (by have := g.by_; exact Nat.le_trans (Nat.mul_le_mul (show l.length + 1 ≤ 100001 by omega) this) (by decide)) hbase fun v' w' h1 h2 h3 => ?_
  · have := hc j u hj
    rwa [show (⟨b, 0, none⟩ : Addr).add j = ⟨b, j, none⟩ from by unfold Addr.add; split <;> simp_all]
  · refine h v' w' ?_ (fun b0 W hb hB => hB.grown h2 (Nat.le_trans hb hbase) fun k hk => Nat.le_trans hb (hown.lt k hk).1) h2 fun e => ?_
    · show w'.ownsRow base E.ty E.size v' (l ++ [y]).length (E.cells (l ++ [y]))
      rw [List.length_append, show E.cells (l ++ [y]) = E.cells l ++ E.enc y from by simp [Elem.cells]]
      exact h1
    · have := h3.1 e
      omega
end
/-! ### Tests, pairs of worlds -/
end Go.Proofs.YtifkjnmnflhnoaaGreatDoor

namespace Go.Proofs.YtifkjnmnflhnoaaGreatDoor
open Go.RowKit Go.Sort
end Go.Proofs.YtifkjnmnflhnoaaGreatDoor

namespace Go.Proofs.YtifkjnmnflhnoaaGreatDoor
open Go.RowKit Go.Sort
end Go.Proofs.YtifkjnmnflhnoaaGreatDoor

namespace Go.Proofs.YtifkjnmnflhnoaaGreatDoor
open Go.RowKit Go.Sort
theorem fallAt_F (t : Qt) (i p q : Nat) : t.fallAt i p q = t.F (i : Int) (p, q) := by
  unfold Qt.fallAt Qt.F
  rw [Int.toNat_natCast, Int.toNat_natCast, Int.toNat_natCast]
theorem F_bd {t : Qt} (ok : t.Ok) {i p q : Nat} (hi : i < t.nw) (hp : (p : Int) < t.wells) (hq : (q : Int) < t.wells) : 0 ≤ t.F (i : Int) (p, q) ∧ t.F (i : Int) (p, q) ≤ 9 := by
  rw [← fallAt_F]
  exact fallAt_bd ok hi (by omega) hp (by omega) hq
end Go.Proofs.YtifkjnmnflhnoaaGreatDoor

namespace Go.Proofs.YtifkjnmnflhnoaaGreatDoor
open Go.RowKit Go.Sort
end Go.Proofs.YtifkjnmnflhnoaaGreatDoor

namespace Go.Proofs.YtifkjnmnflhnoaaGreatDoor
open Go.RowKit Go.Sort
end Go.Proofs.YtifkjnmnflhnoaaGreatDoor

namespace Go.Proofs.YtifkjnmnflhnoaaGreatDoor
open Go.RowKit Go.Sort
end Go.Proofs.YtifkjnmnflhnoaaGreatDoor

namespace Go.Proofs.YtifkjnmnflhnoaaGreatDoor
open Go.RowKit Go.Sort
/-- what Between hands back -/
noncomputable def Qt.betweenV (t : Qt) (p q : Int) : Int × Int := if t.knowErr (t.wellB p && t.wellB q) = 0 then t.between p.toNat q.toNat else (0, 0)
set_option maxHeartbeats 2000000 in
set_option maxRecDepth 100000 in
theorem betweenQ_any (Aw Af : Option Addr) (cw cf : Nat) (t : Qt) (p q : Int) (w : World) (hs : t.Small) (hT : QAt w Aw Af t) (hB : TabAt w) :
    Calls Tryz.prog 11 #[.agg #[.int .i64 t.wells, .slice Aw t.nw cw, .slice Af t.nf cf], .int .i64 p, .int .i64 q] w fun e w' => e = .returned (.tuple #[.agg #[.int .i64 (t.betweenV p q).1, .int .i64 (t.betweenV p q).2], .int .i64 (t.knowErr (t.wellB p && t.wellB q))]) ∧ Below w.heap.size w w' := by
  have hb0 := bAlloc (bAlloc (bAlloc (bAlloc (Below.refl w.heap.size w) (.cells #[.int .i64 t.wells, .slice Aw t.nw cw, .slice Af t.nf cf] 25)) (.cells #[.int .i64 p] 3)) (.cells #[.int .i64 q] 3)) (.cells #[.int .i64 0, .int .i64 0] 43)
  have HT := Lib.hid (hT.mono hb0)
  have HTB := Lib.hid (hB.mono hb0)
  have HB := Lib.hid hb0
  clear hT hb0 hB
  obtain ⟨b1, h1⟩ : ∃ b, t.wellB p = b := ⟨_, rfl⟩
  obtain ⟨b2, h2⟩ : ∃ b, t.wellB q = b := ⟨_, rfl⟩
  have HC1 := Lib.hid (fun w => h1 ▸ isWellQ_any Aw Af cw cf t p w : ∀ w : World, Calls Tryz.prog 29 #[.agg #[.int .i64 t.wells, .slice Aw t.nw cw, .slice Af t.nf cf], .int .i64 p] w fun e w' => e = .returned (.bool b1) ∧ Below w.heap.size w w')
  have HC2 := Lib.hid (fun w => h2 ▸ isWellQ_any Aw Af cw cf t q w : ∀ w : World, Calls Tryz.prog 29 #[.agg #[.int .i64 t.wells, .slice Aw t.nw cw, .slice Af t.nf cf], .int .i64 q] w fun e w' => e = .returned (.bool b2) ∧ Below w.heap.size w w')
  obtain ⟨bb, hbb⟩ : ∃ bb, (b1 && b2) = bb := ⟨_, rfl⟩
  obtain ⟨er, her⟩ : ∃ er, t.knowErr bb = er := ⟨_, rfl⟩
  have HCO := Lib.hid (fun (w' : World) (hb : Below ((((w.alloc (.cells #[.int .i64 t.wells, .slice Aw t.nw cw, .slice Af t.nf cf] 25)).alloc (.cells #[.int .i64 p] 3)).alloc (.cells #[.int .i64 q] 3)).alloc (.cells #[.int .i64 0, .int .i64 0] 43)).heap.size ((((w.alloc (.cells #[.int .i64 t.wells, .slice Aw t.nw cw, .slice Af t.nf cf] 25)).alloc (.cells #[.int .i64 p] 3)).alloc (.cells #[.int .i64 q] 3)).alloc (.cells #[.int .i64 0, .int .i64 0] 43)) w') => ((openQ_any Aw Af cw cf t bb w' hs (HT.out.mono hb)).mono fun e w'' h => ⟨(her ▸ h.1).lower hb.size, h.2⟩ : Calls Tryz.prog 28 #[.agg #[.int .i64 t.wells, .slice Aw t.nw cw, .slice Af t.nf cf], .bool bb] w' fun e w'' => AskOut w'' ((((w.alloc (.cells #[.int .i64 t.wells, .slice Aw t.nw cw, .slice Af t.nf cf] 25)).alloc (.cells #[.int .i64 p] 3)).alloc (.cells #[.int .i64 q] 3)).alloc (.cells #[.int .i64 0, .int .i64 0] 43)).heap.size Aw Af cw cf t er e ∧ Below w'.heap.size w' w''))
  have HE := Lib.hid (show t.knowErr (t.wellB p && t.wellB q) = er by rw [h1, h2, hbb, her])
  have HSV := Lib.hid (show t.betweenV p q = if er = 0 then t.between p.toNat q.toNat else (0, 0) by unfold Qt.betweenV; rw [h1, h2, hbb, her])
  rw [HE.out, HSV.out]
  have HKE := Lib.hid her
  have HG := Lib.hid hbb
  have HW1 := Lib.hid h1
  have HW2 := Lib.hid h2
  clear h1 h2 her hbb HE HSV
  by_cases he : er = 0
  · subst he
    obtain ⟨ok, rfl, hne⟩ := knowErr_zero HKE.out
    have hg := HG.out
    simp only [Bool.and_eq_true] at hg
    obtain ⟨rfl, rfl⟩ := hg
    have hp := inR_iff.1 ((wellB_ok ok p).symm.trans HW1.out)
    have hq := inR_iff.1 ((wellB_ok ok q).symm.trans HW2.out)
    obtain ⟨i, rfl⟩ : ∃ i : Nat, p = (i : Int) := ⟨p.toNat, by omega⟩
    obtain ⟨j, rfl⟩ : ∃ j : Nat, q = (j : Int) := ⟨q.toNat, by omega⟩
    have HP := Lib.hid (show (i : Int) < t.wells by omega)
    have HQ := Lib.hid (show (j : Int) < t.wells by omega)
    have HOK := Lib.hid ok
    rw [if_pos rfl, Int.toNat_natCast, Int.toNat_natCast]
    obtain ⟨lo, hlo⟩ : ∃ lo, (t.between i j).1 = lo := ⟨_, rfl⟩
    obtain ⟨hi, hhi⟩ : ∃ hi, (t.between i j).2 = hi := ⟨_, rfl⟩
    have HLO := Lib.hid (show spanN (fun k => (t.world (numAt t.leftL k)).fall i j) t.leftL.length = (lo, hi) from Prod.ext hlo hhi)
    rw [hlo, hhi]
    clear hp hq hne ok hlo hhi
    go_enter Tryz.func11, Tryz.ntmps11
    go_wp2_with fail
    refine wp_region_call 9 (fun v w2 => AskOut w2 ((((w.alloc (.cells #[.int .i64 t.wells, .slice Aw t.nw cw, .slice Af t.nf cf] 25)).alloc (.cells #[.int .i64 (i : Int)] 3)).alloc (.cells #[.int .i64 (j : Int)] 3)).alloc (.cells #[.int .i64 0, .int .i64 0] 43)).heap.size Aw Af cw cf t 0 (.returned v) ∧ Below ((((w.alloc (.cells #[.int .i64 t.wells, .slice Aw t.nw cw, .slice Af t.nf cf] 25)).alloc (.cells #[.int .i64 (i : Int)] 3)).alloc (.cells #[.int .i64 (j : Int)] 3)).alloc (.cells #[.int .i64 0, .int .i64 0] 43)).heap.size ((((w.alloc (.cells #[.int .i64 t.wells, .slice Aw t.nw cw, .slice Af t.nf cf] 25)).alloc (.cells #[.int .i64 (i : Int)] 3)).alloc (.cells #[.int .i64 (j : Int)] 3)).alloc (.cells #[.int .i64 0, .int .i64 0] 43)) w2) (by kernel_rfl) (by decide +kernel) rfl ?_
    apply Exists.intro
    refine ⟨fun K hK => ?_, ?_, fun w1 hb1 K Q' hK => ?_, ?_⟩
    · skip
      repeat (first | (refine wpCalm_skip rfl ?_) | (refine wpCalm_step rfl (fun K hK => ?_); go_simp; (first | (refine hK _ ?_; clear hK K) | (apply Exists.intro; refine ⟨fun _ => ?_, hK _ ?_⟩; ((first | (go_at_call 29; with_reducible exact newer_of (HC1.out _)) | (go_at_call 29; with_reducible exact newer_of (HC2.out _)))); clear hK K))))
      refine wpCalm_nil ?_
      exact hK
    · rfl
    · go_simp
      refine (HCO.out w1 hb1).mono ?_
      rintro e w2 ⟨ho, hb2⟩
      obtain ⟨v, rfl⟩ := AskOut.ret ho
      exact hK v w2 ⟨ho, bTrans hb1 hb2⟩
    rintro v w2 ⟨ho, hb2⟩
    obtain ⟨C, mp, e1, hc, hC, hmp, hmb⟩ := ho.2 rfl
    obtain rfl := Ending.returned.inj e1
    have HCT2 := Lib.hid hc
    have HMP2 := Lib.hid hmp
    have HCB := Lib.hid hC
    have HMB := Lib.hid hmb
    have HB2 := Lib.hid hb2
    clear ho hb2 hc e1 hC hmp hmb
    apply Exists.intro
    refine ⟨fun K hK => ?_, fun w3 hb3 => ?_⟩
    · skip
      repeat (first | (refine wpCalm_skip rfl ?_) | (refine wpCalm_step rfl (fun K hK => ?_); go_simp; (first | (refine hK _ ?_; clear hK K) | (apply Exists.intro; refine ⟨fun _ => ?_, hK _ ?_⟩; (fail); clear hK K))))
      refine wpCalm_nil ?_
      exact hK
    have HCT := Lib.hid (HCT2.out.mono hb3)
    have HMP := Lib.hid ((hb3.block mp (Array.getElem?_eq_some_iff.1 HMP2.out).1).trans HMP2.out)
    have HB3 := Lib.hid (bTrans HB2.out hb3)
    clear hb3 HCT2 HMP2
    have HCC := Lib.hid (span_any Aw Af cw cf C mp _ t 31 #[.pointer (some ⟨w.heap.size + 1, 0, none⟩), .pointer (some ⟨w.heap.size + 1 + 1, 0, none⟩)] (fun k => (t.world (numAt t.leftL k)).fall i j) w3 HCT.out (mask_64 t HOK.out.nw) (bits_mask t HOK.out.nw) HOK.out.nw (HT.out.mono HB3.out) (HTB.out.mono HB3.out) (enters_of Tryz.func31 (by kernel_rfl)) (fun k i' hk hi w' hb A' c' hr => by
      have hbb := bTrans HB3.out hb
      have h1 : w'.cell? ⟨w.heap.size + 1, 0, none⟩ = some (.int .i64 i) := (hbb.cell (p := ⟨w.heap.size + 1, 0, none⟩) (by simp <;> omega)).trans (by simp [go_sem])
      have h2 : w'.cell? ⟨w.heap.size + 1 + 1, 0, none⟩ = some (.int .i64 j) := (hbb.cell (p := ⟨w.heap.size + 1 + 1, 0, none⟩) (by simp)).trans (by simp [go_sem])
      have hz := hbb.size
      simp only [World.size_alloc] at hz
      have := fallC_any A' c' (w.heap.size + 1) (w.heap.size + 1 + 1) t.wells (t.world i') i j w' (HOK.out.world i' hi) HP.out HQ.out hr (by omega) h1 (by omega) h2
      rw [← numAt_of hk] at this
      rw [← numAt_of hk]
      exact this))
    rw [HLO.out] at HCC
    obtain ⟨bc3, bf3⟩ := bcell HB3.out
    have hz3 := HB3.out.size
    simp only [World.size_alloc] at hz3
    clear HLO
    go_wp2_with fail
    refine HCC.out.mono ?_
    rintro e w4 ⟨rfl, hb4⟩
    have HB4 := Lib.hid (bTrans HB3.out hb4)
    obtain ⟨bc4, bf4⟩ := bcell HB4.out
    have hz4 := HB4.out.size
    simp only [World.size_alloc] at hz4
    clear hb4 bc3 bf3
    go_wp2_with fail
    refine bodyPost_ret (v := .tuple #[.agg #[.int .i64 lo, .int .i64 hi], .int .i64 0]) (by simp [results, Tryz.results11, go_sem, *]) rfl ⟨rfl, ?_⟩
    exact Below.setCell (p := ⟨w.heap.size + 1 + 1 + 1, 1, none⟩) (Below.setCell (p := ⟨w.heap.size + 1 + 1 + 1, 0, none⟩) (bTrans HB.out HB4.out) (by simp <;> omega) (.int .i64 lo)) (by simp <;> omega) (.int .i64 hi)
  · have g0 : (er != 0) = true := by simp [he]
    have HNZ := Lib.hid he
    rw [if_neg he]
    clear he
    go_enter Tryz.func11, Tryz.ntmps11
    go_wp2_with fail
    rcases two_ways b1 b2 with rfl | ⟨rfl, rfl⟩ | ⟨rfl, rfl⟩
    all_goals
      obtain rfl := HG.out
      refine wp_region_call 9 (fun v w2 => AskOut w2 ((((w.alloc (.cells #[.int .i64 t.wells, .slice Aw t.nw cw, .slice Af t.nf cf] 25)).alloc (.cells #[.int .i64 p] 3)).alloc (.cells #[.int .i64 q] 3)).alloc (.cells #[.int .i64 0, .int .i64 0] 43)).heap.size Aw Af cw cf t er (.returned v) ∧ Below ((((w.alloc (.cells #[.int .i64 t.wells, .slice Aw t.nw cw, .slice Af t.nf cf] 25)).alloc (.cells #[.int .i64 p] 3)).alloc (.cells #[.int .i64 q] 3)).alloc (.cells #[.int .i64 0, .int .i64 0] 43)).heap.size ((((w.alloc (.cells #[.int .i64 t.wells, .slice Aw t.nw cw, .slice Af t.nf cf] 25)).alloc (.cells #[.int .i64 p] 3)).alloc (.cells #[.int .i64 q] 3)).alloc (.cells #[.int .i64 0, .int .i64 0] 43)) w2) (by kernel_rfl) (by decide +kernel) rfl ?_
      apply Exists.intro
      refine ⟨fun K hK => ?_, ?_, fun w1 hb1 K Q' hK => ?_, ?_⟩
      · skip
        repeat (first | (refine wpCalm_skip rfl ?_) | (refine wpCalm_step rfl (fun K hK => ?_); go_simp; (first | (refine hK _ ?_; clear hK K) | (apply Exists.intro; refine ⟨fun _ => ?_, hK _ ?_⟩; ((first | (go_at_call 29; with_reducible exact newer_of (HC1.out _)) | (go_at_call 29; with_reducible exact newer_of (HC2.out _)))); clear hK K))))
        refine wpCalm_nil ?_
        exact hK
      · rfl
      · go_simp
        refine (HCO.out w1 hb1).mono ?_
        rintro e w2 ⟨ho, hb2⟩
        obtain ⟨v, rfl⟩ := AskOut.ret ho
        exact hK v w2 ⟨ho, bTrans hb1 hb2⟩
      rintro v w2 ⟨ho, hb2⟩
      obtain rfl := Ending.returned.inj (ho.1 HNZ.out)
      have HB2 := Lib.hid hb2
      clear ho hb2
      apply Exists.intro
      refine ⟨fun K hK => ?_, fun w3 hb3 => ?_⟩
      · skip
        repeat (first | (refine wpCalm_skip rfl ?_) | (refine wpCalm_step rfl (fun K hK => ?_); go_simp; (first | (refine hK _ ?_; clear hK K) | (apply Exists.intro; refine ⟨fun _ => ?_, hK _ ?_⟩; (fail); clear hK K))))
        refine wpCalm_nil ?_
        exact hK
      have HB3 := Lib.hid (bTrans HB2.out hb3)
      clear hb3
      obtain ⟨bc3, bf3⟩ := bcell HB3.out
      have hz3 := HB3.out.size
      simp only [World.size_alloc] at hz3
      go_wp2_with fail
      refine bodyPost_ret (v := .tuple #[.agg #[.int .i64 0, .int .i64 0], .int .i64 er]) (by simp [results, Tryz.results11, go_sem, *]) rfl ⟨rfl, ?_⟩
      exact Below.setCell (p := ⟨w.heap.size + 1 + 1 + 1, 1, none⟩) (Below.setCell (p := ⟨w.heap.size + 1 + 1 + 1, 0, none⟩) (bTrans HB.out HB3.out) (by simp <;> omega) (.int .i64 0)) (by simp <;> omega) (.int .i64 0)
end Go.Proofs.YtifkjnmnflhnoaaGreatDoor

namespace Go.Proofs.YtifkjnmnflhnoaaGreatDoor
open Go.RowKit Go.Sort
end Go.Proofs.YtifkjnmnflhnoaaGreatDoor

namespace Go.Proofs.YtifkjnmnflhnoaaGreatDoor
open Go.RowKit Go.Sort
end Go.Proofs.YtifkjnmnflhnoaaGreatDoor

namespace Go.Proofs.YtifkjnmnflhnoaaGreatDoor
open Go.RowKit Go.Sort
end Go.Proofs.YtifkjnmnflhnoaaGreatDoor

namespace Go.Proofs.YtifkjnmnflhnoaaGreatDoor
open Go.RowKit Go.Sort
end Go.Proofs.YtifkjnmnflhnoaaGreatDoor

namespace Go.Proofs.YtifkjnmnflhnoaaGreatDoor
open Go.RowKit Go.Sort
end Go.Proofs.YtifkjnmnflhnoaaGreatDoor

namespace Go.Proofs.YtifkjnmnflhnoaaGreatDoor
open Go.RowKit Go.Sort
end Go.Proofs.YtifkjnmnflhnoaaGreatDoor

namespace Go.Proofs.YtifkjnmnflhnoaaGreatDoor
open Go.RowKit Go.Sort
end Go.Proofs.YtifkjnmnflhnoaaGreatDoor

namespace Go.Proofs.YtifkjnmnflhnoaaGreatDoor
open Go.RowKit Go.Sort
end Go.Proofs.YtifkjnmnflhnoaaGreatDoor

namespace Go.Proofs.YtifkjnmnflhnoaaGreatDoor
open Go.RowKit Go.Sort
/-- 'append(l[:len(l):len(l)], x)': always new memory -/
theorem stir_full {α : Type} {E : Elem α} (g : E.Good) {o : Oper} {a : Act} (w : World) (s x : Operand) (hop : o.op = Op.call { callee := Callee.builtin Builtin.append, args := #[s, x], argTypes := #[E.sl, E.sl] })
    (A : Option Addr) (l : List α) (y : α) (hs : a.eval s = .slice A l.length l.length) (hA : A = none → l = []) (hr : RowAt w A (E.cells l)) (b : Nat) (hx : a.eval x = .slice (some ⟨b, 0, none⟩) 1 1) (hc : ∀ i u, (E.enc y)[i]? = some u → w.cell? ⟨b, i, none⟩ = some u) (hlen : l.length ≤ 100000) (N : Nat) (hN : N ≤ w.heap.size) :
    Oper.stirAt Tryz.prog o a w Newer (fun w' v => ShapeOf (l.length + 1) v ∧ OwnE E w' N v (l ++ [y])) := by
  obtain ⟨i0, hi, iz0, iz1, iz2⟩ := info_parts g.info
  have hby : (l.length + 1) * E.bytes ≤ 140737488355328 := by have := g.by_; exact Nat.le_trans (Nat.mul_le_mul (show l.length + 1 ≤ 100001 by omega) this) (by decide)
  have h63 : l.length + 1 ≤ maxLen := by unfold maxLen; omega
  have hnews : ∀ j u, (E.enc y)[j]? = some u → w.cell? ((⟨b, 0, none⟩ : Addr).add j) = some u := fun j u h => by
    rw [show (⟨b, 0, none⟩ : Addr).add j = ⟨b, j, none⟩ from by unfold Addr.add; split <;> simp_all]; exact hc j u h
  have hl1 : (E.enc y).length = 1 * E.size := by rw [g.len, Nat.one_mul]
  have fin : ∀ v' w', (Builtin.append_ #[E.sl, E.sl] o.type #[.slice A l.length l.length, .slice (some ⟨b, 0, none⟩) 1 1]).run Tryz.prog w = .ok v' w' → Below w.heap.size w w' → w'.ownsRow N E.ty E.size v' (l.length + 1) (E.cells l ++ E.enc y) → Oper.stirAt Tryz.prog o a w Newer (fun w' v => ShapeOf (l.length + 1) v ∧ OwnE E w' N v (l ++ [y])) := fun v' w' hrun hb hown => by
    unfold Oper.stirAt
    simp only [execOp, hop, resolve, invoke, builtin, List.map_toArray, List.map_cons, List.map_nil, hs, hx, hrun, Result.andThen, Sem.run_bind, Sem.run_pure, Oper.stirUpon]
    obtain ⟨g', cap, hg⟩ := owns_form hown (by omega)
    refine ⟨hb, ⟨g', cap, hg⟩, ?_⟩
    show w'.ownsRow N E.ty E.size v' (l ++ [y]).length (E.cells (l ++ [y]))
    rw [List.length_append, show E.cells (l ++ [y]) = E.cells l ++ E.enc y from by simp [Elem.cells]]
    exact hown
  cases A with
  | none =>
    obtain rfl := hA rfl
    obtain ⟨v', w', hr', h2, h3, _⟩ := run_append_own (P := Tryz.prog) w N E.sl o.type E.ty i0 E.z E.size E.bytes g.und hi iz0 iz1 iz2 g.zs g.pos (.slice none 0 0) 0 [] (World.ownsRow_nil _ _ _ _) ⟨b, 0, none⟩ 1 1 (E.enc y) hl1 hnews (g.one y) (by simpa using h63) (by simpa using hby) hN
    exact fin v' w' hr' (below_grown h3) (by simpa [Elem.cells] using h2)
  | some ad =>
    have holds : ∀ j u, (E.cells l)[j]? = some u → w.cell? (ad.add j) = some u := fun j u h => by
      rcases hr with hr | ⟨b', o', e, hlt, hc'⟩
      · rw [hr] at h; simp at h
      · obtain rfl : ad = ⟨b', o', none⟩ := Option.some.inj e
        rw [show (⟨b', o', none⟩ : Addr).add j = ⟨b', o' + j, none⟩ from by unfold Addr.add; split <;> simp_all]
        exact hc' j u h
    obtain ⟨v', w', hrun, hown, hg⟩ := run_append_arg_grows (P := Tryz.prog) w E.sl o.type E.ty i0 E.z E.size E.bytes g.und hi iz0 iz1 iz2 g.zs g.pos ad l.length l.length (E.cells l) (Elem.cells_len g l) holds ⟨b, 0, none⟩ 1 1 (E.enc y) hl1 hnews (by omega) h63 hby
    exact fin v' w' hrun (below_grown hg) (owns_lower hown hN)
end Go.Proofs.YtifkjnmnflhnoaaGreatDoor

