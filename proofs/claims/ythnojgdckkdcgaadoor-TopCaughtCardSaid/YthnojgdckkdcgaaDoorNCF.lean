/- Parts joined: what all claims of this seat need. -/
import Derived.Test.YthnojgdckkdcgaaDoorNCE
import Derived.RangeFuncNested
import Derived.RangeFuncBound
import Derived.RangeFuncCalls
import Derived.RangeFuncLeaves
import Derived.Shelf.Abstract
import Derived.Shelf.RegionOpen
import Derived.OwnWalkIn
import Derived.TacticsInMore
import Derived.LoopNIn
import Derived.LoopIn
set_option linter.unusedSimpArgs false
set_option linter.unusedVariables false
namespace Go.Proofs.YthnojgdckkdcgaaDoor
open Go.RowKit Go.Sort
/-- 'append(l[:len(l):len(l)], x)': always new memory -/
theorem stir_full {α : Type} {E : Elem α} (g : E.Good) {o : Oper} {a : Act} (w : World) (s x : Operand) (hop : o.op = Op.call { callee := Callee.builtin Builtin.append, args := #[s, x], argTypes := #[E.sl, E.sl] })
    (A : Option Addr) (l : List α) (y : α) (hs : a.eval s = .slice A l.length l.length) (hA : A = none → l = []) (hr : RowAt w A (E.cells l)) (b : Nat) (hx : a.eval x = .slice (some ⟨b, 0, none⟩) 1 1) (hc : ∀ i u, (E.enc y)[i]? = some u → w.cell? ⟨b, i, none⟩ = some u) (hlen : l.length ≤ 100000) (N : Nat) (hN : N ≤ w.heap.size) :
    Oper.stirAt Tryd.prog o a w Newer (fun w' v => ShapeOf (l.length + 1) v ∧ OwnE E w' N v (l ++ [y])) := by
  obtain ⟨i0, hi, iz0, iz1, iz2⟩ := info_parts g.info
  have hby : (l.length + 1) * E.bytes ≤ 140737488355328 := by have := g.by_; exact Nat.le_trans (Nat.mul_le_mul (show l.length + 1 ≤ 100001 by omega) this) (by decide)
  have h63 : l.length + 1 ≤ maxLen := by unfold maxLen; omega
  have hnews : ∀ j u, (E.enc y)[j]? = some u → w.cell? ((⟨b, 0, none⟩ : Addr).add j) = some u := fun j u h => by
    rw [show (⟨b, 0, none⟩ : Addr).add j = ⟨b, j, none⟩ from by unfold Addr.add; split <;> simp_all]; exact hc j u h
  have hl1 : (E.enc y).length = 1 * E.size := by rw [g.len, Nat.one_mul]
  have fin : ∀ v' w', (Builtin.append_ #[E.sl, E.sl] o.type #[.slice A l.length l.length, .slice (some ⟨b, 0, none⟩) 1 1]).run Tryd.prog w = .ok v' w' → Below w.heap.size w w' → w'.ownsRow N E.ty E.size v' (l.length + 1) (E.cells l ++ E.enc y) → Oper.stirAt Tryd.prog o a w Newer (fun w' v => ShapeOf (l.length + 1) v ∧ OwnE E w' N v (l ++ [y])) := fun v' w' hrun hb hown => by
    unfold Oper.stirAt
    simp only [execOp, hop, resolve, invoke, builtin, List.map_toArray, List.map_cons, List.map_nil, hs, hx, hrun, Result.andThen, Sem.run_bind, Sem.run_pure, Oper.stirUpon]
    obtain ⟨g', cap, hg⟩ := owns_form hown (by omega)
    refine ⟨hb, ⟨g', cap, hg⟩, ?_⟩
    show w'.ownsRow N E.ty E.size v' (l ++ [y]).length (E.cells (l ++ [y]))
    rw [List.length_append, show E.cells (l ++ [y]) = E.cells l ++ E.enc y from by simp [Elem.cells]]
    exact hown
  cases A with
  | none =>
    obtain rfl := hA rfl
    obtain ⟨v', w', hr', h2, h3, _⟩ := run_append_own (P := Tryd.prog) w N E.sl o.type E.ty i0 E.z E.size E.bytes g.und hi iz0 iz1 iz2 g.zs g.pos (.slice none 0 0) 0 [] (World.ownsRow_nil _ _ _ _) ⟨b, 0, none⟩ 1 1 (E.enc y) hl1 hnews (g.one y) (by simpa using h63) (by simpa using hby) hN
    exact fin v' w' hr' (below_grown h3) (by simpa [Elem.cells] using h2)
  | some ad =>
    have holds : ∀ j u, (E.cells l)[j]? = some u → w.cell? (ad.add j) = some u := fun j u h => by
      rcases hr with hr | ⟨b', o', e, hlt, hc'⟩
      · rw [hr] at h; simp at h
      · obtain rfl : ad = ⟨b', o', none⟩ := Option.some.inj e
        rw [show (⟨b', o', none⟩ : Addr).add j = ⟨b', o' + j, none⟩ from by unfold Addr.add; split <;> simp_all]
        exact hc' j u h
    obtain ⟨v', w', hrun, hown, hg⟩ := run_append_arg_grows (P := Tryd.prog) w E.sl o.type E.ty i0 E.z E.size E.bytes g.und hi iz0 iz1 iz2 g.zs g.pos ad l.length l.length (E.cells l) (Elem.cells_len g l) holds ⟨b, 0, none⟩ 1 1 (E.enc y) hl1 hnews (by omega) h63 hby
    exact fin v' w' hrun (below_grown hg) (owns_lower hown hN)
/-- a slice of tests that one may read and go on with -/
def LstAt (w : World) (A : Option Addr) (c : Nat) (l : List Tp) : Prop :=
  (l = [] ∧ A = none ∧ c = 0) ∨ (l ≠ [] ∧ (∃ g, A = some ⟨g, 0, none⟩) ∧ RowAt w A (tstE.cells l) ∧ l.length ≤ c ∧ c ≤ 9223372036854775807)
theorem LstAt.mono {w w' : World} {A : Option Addr} {c : Nat} {l : List Tp} (h : LstAt w A c l) (hb : Below w.heap.size w w') : LstAt w' A c l :=
  h.imp id fun ⟨h1, h2, h3, h4⟩ => ⟨h1, h2, h3.mono hb, h4⟩
theorem LstAt.row {w : World} {A : Option Addr} {c : Nat} {l : List Tp} (h : LstAt w A c l) : RowAt w A (tstE.cells l) := by
  rcases h with ⟨rfl, _⟩ | ⟨_, _, h, _⟩
  · exact .inl rfl
  · exact h
theorem LstAt.cap {w : World} {A : Option Addr} {c : Nat} {l : List Tp} (h : LstAt w A c l) : l.length ≤ c ∧ c ≤ 9223372036854775807 := by
  rcases h with ⟨rfl, _, rfl⟩ | ⟨_, _, _, h⟩
  · exact ⟨Nat.le_refl _, by omega⟩
  · exact h
theorem LstAt.none {w : World} {A : Option Addr} {c : Nat} {l : List Tp} (h : LstAt w A c l) : A = none → l = [] := by
  rcases h with ⟨rfl, _⟩ | ⟨_, ⟨g, rfl⟩, _⟩
  · exact fun _ => rfl
  · intro h; cases h
theorem OwnE.lst {w : World} {base : Nat} {v : Value} {l : List Tp} (h : OwnE tstE w base v l) (h0 : l ≠ []) : ∃ g c, v = .slice (some ⟨g, 0, none⟩) l.length c ∧ LstAt w (some ⟨g, 0, none⟩) c l := by
  obtain ⟨A, c, e, hr⟩ := h.read
  have hp : 0 < l.length := List.length_pos_iff.2 h0
  rcases h.2 with ⟨rfl, h1⟩ | ⟨g, cap, cur, rfl, _, _, h3, h4, _⟩
  · omega
  · injection e with e1 _ e2
    subst e1 e2
    exact ⟨g, _, rfl, .inr ⟨h0, ⟨g, rfl⟩, hr, h3, by unfold maxLen at h4; omega⟩⟩
/-- the first list behind others -/
theorem find_step {Z : List Tp} {i : Nat} {x : Tp} {P : List Tp → Bool} {k : Nat} (h : Z[i]? = some x) : (listsL (Z.drop i) (k + 1)).find? P = match (listsL (Z.drop (i + 1)) k).find? (fun y => P (x :: y)) with
    | some y => some (x :: y)
    | none => (listsL (Z.drop (i + 1)) (k + 1)).find? P := by
  have e : Z.drop i = x :: Z.drop (i + 1) := by
    obtain ⟨hi, rfl⟩ := List.getElem?_eq_some_iff.1 h
    exact List.drop_eq_getElem_cons hi
  rw [e]
  show ((listsL (Z.drop (i + 1)) k).map (x :: ·) ++ listsL (Z.drop (i + 1)) (k + 1)).find? P = _
  rw [List.find?_append, List.find?_map]
  show (((listsL (Z.drop (i + 1)) k).find? (fun y => P (x :: y))).map (x :: ·)).or _ = _
  cases (listsL (Z.drop (i + 1)) k).find? (fun y => P (x :: y)) <;> rfl
theorem find_end {Z : List Tp} {P : List Tp → Bool} {k i : Nat} (h : Z.length ≤ i) : (listsL (Z.drop i) (k + 1)).find? P = none := by
  rw [List.drop_eq_nil_of_le h]
  rfl
end Go.Proofs.YthnojgdckkdcgaaDoor

namespace Go.Proofs.YthnojgdckkdcgaaDoor
open Go.RowKit Go.Sort
/-- what find has captured -/
structure FindEnv (w : World) (C : Nat) (Aw Af Ap At : Option Addr) (cw cf cp ct mp s bc bp bt bf : Nat) (t : Qt) (Z : List Tp) (ps : List (Int × Int)) : Prop where
  court : CourtAt w C Aw Af cw cf t s mp
  town : QAt w Aw Af t
  pairs : RowAt w Ap (prE.cells ps)
  tests : RowAt w At (tstE.cells Z)
  boxC : BoxAt w bc [.pointer (some ⟨C, 0, none⟩)]
  boxP : BoxAt w bp [.slice Ap ps.length cp]
  boxT : BoxAt w bt [.slice At Z.length ct]
  boxF : BoxAt w bf [.func (.func 45) #[] #[.pointer (some ⟨bc, 0, none⟩), .pointer (some ⟨bp, 0, none⟩), .pointer (some ⟨bt, 0, none⟩), .pointer (some ⟨bf, 0, none⟩)]]
theorem FindEnv.mono {w w' : World} {C : Nat} {Aw Af Ap At : Option Addr} {cw cf cp ct mp s bc bp bt bf : Nat} {t : Qt} {Z : List Tp} {ps : List (Int × Int)} (h : FindEnv w C Aw Af Ap At cw cf cp ct mp s bc bp bt bf t Z ps) (hb : Below w.heap.size w w') : FindEnv w' C Aw Af Ap At cw cf cp ct mp s bc bp bt bf t Z ps :=
  ⟨h.court.mono hb, h.town.mono hb, h.pairs.mono hb, h.tests.mono hb, h.boxC.mono hb, h.boxP.mono hb, h.boxT.mono hb, h.boxF.mono hb⟩
/-- what find hands back -/
def FindOut (w : World) (r : Option (List Tp)) (l : List Tp) (e : Ending) : Prop := (∀ x, r = some x → ∃ g c, e = .returned (.slice (some ⟨g, 0, none⟩) (l ++ x).length c) ∧ LstAt w (some ⟨g, 0, none⟩) c (l ++ x)) ∧ (r = none → e = .returned (.slice none 0 0))
def oneS (v : Value) : Prop := ∃ b, v = .slice (some ⟨b, 0, none⟩) 1 1
def oneR (x : Tp) (w : World) (v : Value) : Prop := ∀ b, v = .slice (some ⟨b, 0, none⟩) 1 1 → b < w.heap.size ∧ ∀ i u, (tstE.enc x)[i]? = some u → w.cell? ⟨b, i, none⟩ = some u
theorem oneG (x : Tp) : (Stir.held oneS (oneR x)).good := ⟨⟨_, 0, rfl⟩, fun _ _ _ hb h b e => ⟨Nat.lt_of_lt_of_le (h b e).1 hb.size, fun i u hu => (hb.cell (p := ⟨b, i, none⟩) (h b e).1).trans ((h b e).2 i u hu)⟩⟩
theorem ownG (n N : Nat) (l : List Tp) : (Stir.held (ShapeOf n) (fun w v => OwnE tstE w N v l)).good := ⟨⟨_, 0, 0, rfl⟩, fun _ _ _ hb h => OwnE.mono h hb⟩
theorem oneR_new (x : Tp) (w : World) : oneR x (w.alloc (.cells #[.int .i64 x.1, .int .i64 x.2] 51)) (.slice (some ⟨w.heap.size, 0, none⟩) 1 1) := fun b e => by
  obtain rfl : w.heap.size = b := by simpa using e
  refine ⟨by simp, fun i u hu => ?_⟩
  match i, hu with
  | 0, hu =>
    obtain rfl : Value.int .i64 x.1 = u := by simpa [tstE] using hu
    simp [go_sem]
  | 1, hu =>
    obtain rfl : Value.int .i64 x.2 = u := by simpa [tstE] using hu
    simp [go_sem]
set_option maxHeartbeats 4000000 in
set_option maxRecDepth 100000 in
theorem find_any {C : Nat} {Aw Af Ap At : Option Addr} {cw cf cp ct mp s bc bp bt bf : Nat} {t : Qt} {Z : List Tp} {ps : List (Int × Int)} (ok : t.Ok) (hZ : t.TestsOk Z) (hps : t.PairsOk ps) (hne : ps ≠ []) (hzl : Z.length ≤ 1000) (hpl : ps.length ≤ 100000) :
    ∀ (left : Nat) (l : List Tp) (A : Option Addr) (c from_ : Nat) (w : World), FindEnv w C Aw Af Ap At cw cf cp ct mp s bc bp bt bf t Z ps → LstAt w A c l → t.TestsOk l → l.length + left ≤ 10000 → from_ ≤ Z.length →
    Calls Tryd.prog 45 #[.slice A l.length c, .int .i64 from_, .int .i64 left, .pointer (some ⟨bc, 0, none⟩), .pointer (some ⟨bp, 0, none⟩), .pointer (some ⟨bt, 0, none⟩), .pointer (some ⟨bf, 0, none⟩)] w fun e w' => FindOut w' ((listsL (Z.drop from_) left).find? (fun x => t.told (l ++ x) ps)) l e ∧ Below w.heap.size w w'
  | 0, l, A, c, from_, w, hE, hL, hl, hlen, hfrom => by
    have HE := Lib.hid hE
    have HL := Lib.hid hL
    obtain ⟨b, hb⟩ : ∃ b, t.told l ps = b := ⟨_, rfl⟩
    have HT := Lib.hid (fun w' hb' => (hb ▸ told_any Aw Af A Ap cw cf C mp s c cp t l ps w' (HE.out.court.mono hb') ok hl hps (HE.out.town.mono hb') (HL.out.row.mono hb') (HE.out.pairs.mono hb') (by omega) hpl : Calls Tryd.prog 46 #[.pointer (some ⟨C, 0, none⟩), .slice A l.length c, .slice Ap ps.length cp] w' fun e w'' => e = .returned (.bool b) ∧ Below w'.heap.size w' w'') : ∀ w', Below w.heap.size w w' → _)
    have HF := Lib.hid (show (listsL (Z.drop from_) 0).find? (fun x => t.told (l ++ x) ps) = if b then some [] else none by
      rw [listsL_zero, List.find?_cons, List.append_nil, hb]
      cases b <;> rfl)
    have HN := Lib.hid (show b = true → l ≠ [] from fun h e => by
      rw [e] at hb
      rw [h] at hb
      exact hne (told_nil.1 hb))
    have x0 := hE.boxC.lt
    have y0 := hE.boxC.cell 0 _ rfl
    have x1 := hE.boxP.lt
    have y1 := hE.boxP.cell 0 _ rfl
    obtain ⟨n, hn⟩ : ∃ n, l.length = n := ⟨_, rfl⟩
    obtain ⟨m, hm⟩ : ∃ m, ps.length = m := ⟨_, rfl⟩
    rw [hn] at HT ⊢
    rw [hm] at HT y1
    have HLN := Lib.hid hn
    clear hE hL hb hn hm hl hlen hfrom hzl hpl
    cases b
    · go_enter Tryd.func45, Tryd.ntmps45
      go_wp2_with fail
      refine (HT.out _ (Below.refl _ _)).mono ?_
      rintro e w1 ⟨rfl, hb1⟩
      go_wp2_with fail
      go_ret
      exact ⟨⟨(fun x h => by rw [HF.out] at h; cases h), fun _ => rfl⟩, hb1⟩
    · have hln := HN.out rfl
      rcases HL.out with ⟨h, _⟩ | ⟨h1, ⟨g, rfl⟩, h3, h4⟩
      · exact absurd h hln
      have HL2 := Lib.hid (show LstAt w (some ⟨g, 0, none⟩) c l from HL.out)
      clear h1 h3 h4 hln
      go_enter Tryd.func45, Tryd.ntmps45
      go_wp2_with fail
      refine (HT.out _ (Below.refl _ _)).mono ?_
      rintro e w1 ⟨rfl, hb1⟩
      go_wp2_with fail
      go_ret
      refine ⟨⟨fun x h => ?_, (fun h => by rw [HF.out] at h; cases h)⟩, hb1⟩
      rw [HF.out] at h
      obtain rfl : [] = x := Option.some.inj h
      rw [List.append_nil]
      exact ⟨g, c, by rw [HLN.out]; rfl, HL2.out.mono hb1⟩
  | left + 1, l, A, c, from_, w, hE, hL, hl, hlen, hfrom => by
    have IH := Lib.hid (find_any (C := C) (Aw := Aw) (Af := Af) (Ap := Ap) (At := At) (cw := cw) (cf := cf) (cp := cp) (ct := ct) (mp := mp) (s := s) (bc := bc) (bp := bp) (bt := bt) (bf := bf) ok hZ hps hne hzl hpl left)
    have HE := Lib.hid hE
    have HL := Lib.hid hL
    have HLO := Lib.hid hl
    have HZ := Lib.hid hZ
    obtain ⟨P, hP⟩ : ∃ P : List Tp → Bool, (fun x => t.told (l ++ x) ps) = P := ⟨_, rfl⟩
    rw [hP]
    have HPP := Lib.hid hP
    have hcap := hL.cap
    obtain ⟨n, hn⟩ : ∃ n, l.length = n := ⟨_, rfl⟩
    obtain ⟨z, hz⟩ : ∃ z, Z.length = z := ⟨_, rfl⟩
    rw [hn] at hlen hcap ⊢
    rw [hz] at hfrom hzl
    have HN := Lib.hid hn
    have HZL := Lib.hid hz
    have g0 : (((left + 1 : Nat) : Int) == 0) = false := by simp; omega
    have e5 : IntKind.i64.wrap (left : Int) = (left : Int) := IntWalk.i64_in _ (by omega)
    clear hE hL hl hP hn hz
    go_enter Tryd.func45, Tryd.ntmps45
    go_wp2_with fail
    go_loopw [11] (fun i' wr => ∃ i : Nat, i' = .int .i64 i ∧ i ≤ z ∧ (listsL (Z.drop from_) (left + 1)).find? P = (listsL (Z.drop i) (left + 1)).find? P ∧ Below w.heap.size w wr) (fun i' _ => z - (intOf i').toNat)
    case atStart => exact ⟨from_, rfl, hfrom, rfl, Below.refl _ _⟩
    case round =>
      obtain ⟨i, rfl, hi, hfe, hbel⟩ := hrel
      have HFE := Lib.hid hfe
      have HBL := Lib.hid hbel
      have HE3 := Lib.hid (HE.out.mono hbel)
      have x2 := HE3.out.boxT.lt
      have y2 := HE3.out.boxT.cell 0 _ rfl
      rw [HZL.out] at y2
      clear hfe hbel
      by_cases hlt : i < z
      · have hget := tget_some (l := Z) (i := i) (by rw [HZL.out]; exact hlt)
        obtain ⟨x, hx⟩ : ∃ x, tget Z i = x := ⟨_, rfl⟩
        rw [hx] at hget
        have HGET := Lib.hid hget
        have HXO := Lib.hid (HZ.out x (List.mem_of_getElem? hget))
        obtain ⟨b, o, rfl, hbs, c0, c1⟩ := SliceE.tst HE3.out.tests hget
        obtain ⟨p, q⟩ := x
        have x3 := HE3.out.boxF.lt
        have y3 := HE3.out.boxF.cell 0 _ rfl
        have i1 : (i : Int) < (z : Int) := by omega
        have i0 : (0 : Int) ≤ (i : Int) := by omega
        have n1 : (n : Int) ≤ (c : Int) := by omega
        have n0 : (0 : Int) ≤ (n : Int) := by omega
        have e6 : IntKind.i64.wrap ((i : Int) + 1) = ((i + 1 : Nat) : Int) := by
          rw [show (i : Int) + 1 = ((i + 1 : Nat) : Int) by omega]
          exact IntWalk.i64_in _ (by omega)
        clear hx hget
        go_wp2_with fail
        refine wp_region_stir 17 [.const (.func (.func 45) #[] #[.pointer (some ⟨bc, 0, none⟩), .pointer (some ⟨bp, 0, none⟩), .pointer (some ⟨bt, 0, none⟩), .pointer (some ⟨bf, 0, none⟩)]), .const (.slice A n c), .const (.slice A n c), .const (.int .i64 n), .const (.slice A n c), .const (.int .i64 n), .const (.slice A n n), .const (.slice (some ⟨b, o, none⟩) z ct), .const (.int .i64 i), .const (.pointer (some ⟨b, o + i * 2, none⟩)), .const (.agg #[.int .i64 p, .int .i64 q]),
          .held oneS (oneR (p, q)), .held (ShapeOf (n + 1)) (fun w v => OwnE tstE w 0 v (l ++ [(p, q)])), .const (.int .i64 i), .const (.int .i64 ((i + 1 : Nat) : Int)), .const (.int .i64 ((left + 1 : Nat) : Int)), .const (.int .i64 left)] (by kernel_rfl) (by kernel_rfl) rfl ⟨trivial, trivial, trivial, trivial, trivial, trivial, trivial, trivial, trivial, trivial, trivial, oneG _, ownG _ _ _, trivial, trivial, trivial, trivial, trivial⟩ (crossAll_no _ _ _ _ trivial) ?_
        iterate 11 refine wpStir_const (by go_simp) ?_
        refine wpStir_held rfl (fun w' hb hd => ?_) (fun v hv => ?_)
        · go_simp
          exact ⟨bAlloc (Below.refl _ _) _, ⟨_, rfl⟩, oneR_new (p, q) w'⟩
        obtain ⟨b1, rfl⟩ := hv
        simp only [Act.put, List.setIfInBounds_toArray, List.set_cons_succ, List.set_cons_zero]
        refine wpStir_held rfl (fun w' hb hd => ?_) (fun v hv => ?_)
        · rw [show ShapeOf (n + 1) = ShapeOf (l.length + 1) by rw [HN.out]]
          refine stir_full tstG w' (Operand.tmp 33) (Operand.tmp 38) rfl A l (p, q) ?_ HL.out.none ((HL.out.row.mono HBL.out).mono hb) b1 rfl (hd.1 (by kernel_rfl) b1 rfl).2 (by rw [HN.out]; omega) 0 (Nat.zero_le _)
          rw [HN.out]
          rfl
        obtain ⟨g, c2, rfl⟩ := hv
        iterate 4 refine wpStir_const (by go_simp) ?_
        refine wpStir_end (fun w5 hb5 hd => ?_)
        have HOW := Lib.hid hd.1
        clear hd
        simp only [List.drop_succ_cons, List.drop_zero]
        simp only [Act.put, List.setIfInBounds_toArray, List.set_cons_succ, List.set_cons_zero]
        obtain ⟨g', c', e1, hlst⟩ := HOW.out.lst (by simp)
        simp only [Value.slice.injEq, Option.some.injEq, Addr.mk.injEq, and_true] at e1
        obtain ⟨rfl, e3, rfl⟩ := e1
        clear e3
        have HIH := Lib.hid (IH.out (l ++ [(p, q)]) _ _ (i + 1) w5 (HE3.out.mono hb5) hlst (fun y hy => by
          rcases List.mem_append.1 hy with hy | hy
          · exact HLO.out y hy
          · rw [List.mem_singleton.1 hy]; exact HXO.out) (by rw [List.length_append, HN.out]; simp; omega) (by rw [HZL.out]; omega))
        rw [show (l ++ [(p, q)]).length = n + 1 by rw [List.length_append, HN.out]; rfl, show ((i + 1 : Nat) : Int) = (i : Int) + 1 from rfl] at HIH
        have HSTEP := Lib.hid (find_step (P := P) (k := left) HGET.out)
        have HFUN := Lib.hid (show (fun y => P ((p, q) :: y)) = (fun x => t.told (l ++ [(p, q)] ++ x) ps) by
          rw [← HPP.out]
          funext y
          simp)
        rw [HFUN.out] at HSTEP
        obtain ⟨r, hr⟩ : ∃ r, (listsL (Z.drop (i + 1)) left).find? (fun x => t.told (l ++ [(p, q)] ++ x) ps) = r := ⟨_, rfl⟩
        rw [hr] at HIH HSTEP
        have HB5 := Lib.hid (bTrans HBL.out hb5)
        clear hr hlst hb5 c0 c1 x2 y2 x3 y3 hbs
        go_wp2_with fail
        (with_reducible refine HIH.out.mono ?_)
        rintro e w6 ⟨⟨ho1, ho2⟩, hb6⟩
        have HB6 := Lib.hid (bTrans HB5.out hb6)
        cases r with
        | none =>
          obtain rfl := ho2 rfl
          have HF2 := Lib.hid (HFE.out.trans HSTEP.out)
          clear ho1 ho2 hb6
          go_wp2_with fail
          go_roundw
          case rel =>
            first
            | exact ⟨i + 1, by go_num, by omega, HF2.out, HB6.out⟩
            | ((repeat apply Exists.intro)
               refine ⟨⟨i + 1, ?_, by omega, HF2.out, HB6.out⟩, rfl⟩
               go_num)
          case measure => simp [intOf]; omega
        | some y =>
          obtain ⟨g2, c3, rfl, hl2⟩ := ho1 y rfl
          have HF2 := Lib.hid (HFE.out.trans HSTEP.out)
          rw [List.append_assoc] at hl2
          have HL2 := Lib.hid hl2
          have HLE := Lib.hid (show (l ++ [(p, q)] ++ y).length = (l ++ (p, q) :: y).length by simp)
          obtain ⟨m2, hm2⟩ : ∃ m2, (l ++ [(p, q)] ++ y).length = m2 := ⟨_, rfl⟩
          rw [hm2] at HLE ⊢
          clear ho1 ho2 hb6 hl2 hm2
          go_wp2_with fail
          go_ret
          refine ⟨⟨fun x hx => ?_, (fun h => by rw [HF2.out] at h; cases h)⟩, HB6.out⟩
          rw [HF2.out] at hx
          obtain rfl : (p, q) :: y = x := Option.some.inj hx
          exact ⟨g2, c3, by rw [← HLE.out]; rfl, HL2.out⟩
      · obtain rfl : i = z := by omega
        have HFN := Lib.hid (HFE.out.trans (find_end (by rw [HZL.out]; omega)))
        go_wp2_with fail
        go_ret
        exact ⟨⟨(fun x h => by rw [HFN.out] at h; cases h), fun _ => rfl⟩, HBL.out⟩
end Go.Proofs.YthnojgdckkdcgaaDoor

namespace Go.Proofs.YthnojgdckkdcgaaDoor
open Go.RowKit Go.Sort
theorem firstUpTo_keep {Z : List Tp} {p : List Tp → Bool} {x : List Tp} {k : Nat} (h : firstUpTo Z p 0 k = some x) : ∀ m, firstUpTo Z p 0 (k + m) = some x
  | 0 => h
  | m + 1 => by rw [← Nat.add_assoc, firstUpTo_snoc, firstUpTo_keep h m]
theorem first_found {Z : List Tp} {p : List Tp → Bool} {x : List Tp} {k : Nat} (h0 : firstUpTo Z p 0 k = none) (h1 : (listsL Z k).find? p = some x) (hk : k ≤ Z.length) : fewestL Z p = x := by
  have h2 : firstUpTo Z p 0 (k + 1) = some x := by
    rw [firstUpTo_snoc, h0, Nat.zero_add]
    exact h1
  unfold fewestL
  rcases Nat.eq_or_lt_of_le hk with e | e
  · subst e
    rw [h0]
    rw [listsL_all, List.find?_cons] at h1
    split at h1
    · exact Option.some.inj h1
    · simp at h1
  · obtain ⟨m, hm⟩ : ∃ m, Z.length = k + 1 + m := ⟨Z.length - k - 1, by omega⟩
    rw [hm, firstUpTo_keep h2 m]
    rfl
theorem first_all {Z : List Tp} {p : List Tp → Bool} (h : firstUpTo Z p 0 (Z.length + 1) = none) : p Z = false := by
  rw [firstUpTo_snoc] at h
  cases h1 : firstUpTo Z p 0 Z.length with
  | some y => rw [h1] at h; cases h
  | none =>
    rw [h1, Nat.zero_add, listsL_all] at h
    cases h2 : p Z with
    | false => rfl
    | true => simp [h2] at h
/-- what fewest hands back -/
def FewOut (w : World) (t : Qt) (Z : List Tp) (ps : List (Int × Int)) (e : Ending) : Prop :=
  (t.told Z ps = true → ∃ A c, e = .returned (.tuple #[.slice A (fewestL Z fun x => t.told x ps).length c, .bool true]) ∧ LstAt w A c (fewestL Z fun x => t.told x ps)) ∧ (t.told Z ps = false → e = .returned (.tuple #[.slice none 0 0, .bool false]))
set_option maxHeartbeats 4000000 in
set_option maxRecDepth 100000 in
theorem fewest_any (Aw Af Ap At : Option Addr) (cw cf cp ct C mp s : Nat) (t : Qt) (Z : List Tp) (ps : List (Int × Int)) (w : World) (hc : CourtAt w C Aw Af cw cf t s mp) (ok : t.Ok) (hZ : t.TestsOk Z) (hps : t.PairsOk ps) (hzl : Z.length ≤ 1000) (hpl : ps.length ≤ 100000) (hT : QAt w Aw Af t) (hA : RowAt w At (tstE.cells Z)) (hP : RowAt w Ap (prE.cells ps)) :
    Calls Tryd.prog 30 #[.pointer (some ⟨C, 0, none⟩), .slice At Z.length ct, .slice Ap ps.length cp] w fun e w' => FewOut w' t Z ps e ∧ Below w.heap.size w w' := by
  obtain ⟨z, hz⟩ : ∃ z, Z.length = z := ⟨_, rfl⟩
  obtain ⟨m, hm⟩ : ∃ m, ps.length = m := ⟨_, rfl⟩
  have HZL := Lib.hid hz
  have HPL := Lib.hid hm
  have HOK := Lib.hid ok
  have HZO := Lib.hid hZ
  have HPO := Lib.hid hps
  have hb0 : Below w.heap.size w ((((w.alloc (.cells #[.pointer (some ⟨C, 0, none⟩)] 74)).alloc (.cells #[.slice At z ct] 47)).alloc (.cells #[.slice Ap m cp] 87)).alloc (.cells #[.func (.func 45) #[] #[.pointer (some ⟨w.heap.size, 0, none⟩), .pointer (some ⟨w.heap.size + 1 + 1, 0, none⟩), .pointer (some ⟨w.heap.size + 1, 0, none⟩), .pointer (some ⟨w.heap.size + 1 + 1 + 1, 0, none⟩)]] 103)) := bAlloc (bAlloc (bAlloc (bAlloc (Below.refl w.heap.size w) _) _) _) _
  have HB := Lib.hid hb0
  have HE := Lib.hid (show FindEnv ((((w.alloc (.cells #[.pointer (some ⟨C, 0, none⟩)] 74)).alloc (.cells #[.slice At z ct] 47)).alloc (.cells #[.slice Ap m cp] 87)).alloc (.cells #[.func (.func 45) #[] #[.pointer (some ⟨w.heap.size, 0, none⟩), .pointer (some ⟨w.heap.size + 1 + 1, 0, none⟩), .pointer (some ⟨w.heap.size + 1, 0, none⟩), .pointer (some ⟨w.heap.size + 1 + 1 + 1, 0, none⟩)]] 103)) C Aw Af Ap At cw cf cp ct mp s w.heap.size (w.heap.size + 1 + 1) (w.heap.size + 1) (w.heap.size + 1 + 1 + 1) t Z ps from
    ⟨hc.mono hb0, hT.mono hb0, hP.mono hb0, hA.mono hb0, BoxAt.one (by simp <;> omega) (by simp [go_sem]), BoxAt.one (by simp <;> omega) (by simp [go_sem, hm]), BoxAt.one (by simp <;> omega) (by simp [go_sem, hz]), BoxAt.one (by simp) (by simp [go_sem])⟩)
  rw [hz, hm]
  clear hc hT hP hA hb0 hZ hps ok
  by_cases h0 : m = 0
  · subst h0
    obtain rfl : ps = [] := List.eq_nil_of_length_eq_zero hm
    have HT := Lib.hid (show t.told Z [] = true from rfl)
    have HN := Lib.hid (fewest_nil Z (fun x => t.told x []) rfl)
    clear hz hm hzl hpl
    go_enter Tryd.func30, Tryd.ntmps30
    go_wp2_with fail
    go_ret2
    refine ⟨⟨fun _ => ⟨none, 0, by rw [HN.out]; rfl, ?_⟩, fun h => by rw [HT.out] at h; cases h⟩, HB.out⟩
    rw [HN.out]
    exact .inl ⟨rfl, rfl, rfl⟩
  · have HNE := Lib.hid (show ps ≠ [] from fun e => h0 (by rw [← hm, e]; rfl))
    have g0 : ((m : Int) == 0) = false := by simp [h0]
    obtain ⟨p, hp⟩ : ∃ p : List Tp → Bool, (fun x => t.told x ps) = p := ⟨_, rfl⟩
    have HP := Lib.hid hp
    have HP0 := Lib.hid (show p [] = false by
      rw [← hp]
      cases h : t.told [] ps with
      | false => exact h
      | true => exact absurd (told_nil.1 h) HNE.out)
    obtain ⟨bz, hbz⟩ : ∃ bz, t.told Z ps = bz := ⟨_, rfl⟩
    have HBZ := Lib.hid hbz
    have HTD := Lib.hid (fun w' hb' => (hbz ▸ HPL.out ▸ HZL.out ▸ told_any Aw Af At Ap cw cf C mp s ct cp t Z ps w' (HE.out.court.mono hb') HOK.out HZO.out HPO.out (HE.out.town.mono hb') (HE.out.tests.mono hb') (HE.out.pairs.mono hb') (by omega) hpl : Calls Tryd.prog 46 #[.pointer (some ⟨C, 0, none⟩), .slice At z ct, .slice Ap m cp] w' fun e w'' => e = .returned (.bool bz) ∧ Below w'.heap.size w' w'') : ∀ w', Below ((((w.alloc (.cells #[.pointer (some ⟨C, 0, none⟩)] 74)).alloc (.cells #[.slice At z ct] 47)).alloc (.cells #[.slice Ap m cp] 87)).alloc (.cells #[.func (.func 45) #[] #[.pointer (some ⟨w.heap.size, 0, none⟩), .pointer (some ⟨w.heap.size + 1 + 1, 0, none⟩), .pointer (some ⟨w.heap.size + 1, 0, none⟩), .pointer (some ⟨w.heap.size + 1 + 1 + 1, 0, none⟩)]] 103)).heap.size ((((w.alloc (.cells #[.pointer (some ⟨C, 0, none⟩)] 74)).alloc (.cells #[.slice At z ct] 47)).alloc (.cells #[.slice Ap m cp] 87)).alloc (.cells #[.func (.func 45) #[] #[.pointer (some ⟨w.heap.size, 0, none⟩), .pointer (some ⟨w.heap.size + 1 + 1, 0, none⟩), .pointer (some ⟨w.heap.size + 1, 0, none⟩), .pointer (some ⟨w.heap.size + 1 + 1 + 1, 0, none⟩)]] 103)) w' → _)
    have HFA := Lib.hid (fun (k : Nat) (hk : k ≤ 9000) (w' : World) (hb' : Below ((((w.alloc (.cells #[.pointer (some ⟨C, 0, none⟩)] 74)).alloc (.cells #[.slice At z ct] 47)).alloc (.cells #[.slice Ap m cp] 87)).alloc (.cells #[.func (.func 45) #[] #[.pointer (some ⟨w.heap.size, 0, none⟩), .pointer (some ⟨w.heap.size + 1 + 1, 0, none⟩), .pointer (some ⟨w.heap.size + 1, 0, none⟩), .pointer (some ⟨w.heap.size + 1 + 1 + 1, 0, none⟩)]] 103)).heap.size ((((w.alloc (.cells #[.pointer (some ⟨C, 0, none⟩)] 74)).alloc (.cells #[.slice At z ct] 47)).alloc (.cells #[.slice Ap m cp] 87)).alloc (.cells #[.func (.func 45) #[] #[.pointer (some ⟨w.heap.size, 0, none⟩), .pointer (some ⟨w.heap.size + 1 + 1, 0, none⟩), .pointer (some ⟨w.heap.size + 1, 0, none⟩), .pointer (some ⟨w.heap.size + 1 + 1 + 1, 0, none⟩)]] 103)) w') => (hp ▸ find_any HOK.out HZO.out HPO.out HNE.out hzl hpl k [] none 0 0 w' (HE.out.mono hb') (.inl ⟨rfl, rfl, rfl⟩) (fun x hx => by cases hx) (by simp; omega) (Nat.zero_le _) :
      Calls Tryd.prog 45 #[.slice none 0 0, .int .i64 0, .int .i64 k, .pointer (some ⟨w.heap.size, 0, none⟩), .pointer (some ⟨w.heap.size + 1 + 1, 0, none⟩), .pointer (some ⟨w.heap.size + 1, 0, none⟩), .pointer (some ⟨w.heap.size + 1 + 1 + 1, 0, none⟩)] w' fun e w'' => FindOut w'' ((listsL Z k).find? p) [] e ∧ Below w'.heap.size w' w''))
    have hz1000 : z ≤ 1000 := by omega
    clear hz hm hzl hpl hp hbz h0
    go_enter Tryd.func30, Tryd.ntmps30
    go_wp2_with fail
    go_loopw [18] (fun i' wr => ∃ k : Nat, i' = .int .i64 k ∧ k ≤ z + 1 ∧ firstUpTo Z p 0 k = none ∧ (0 < k → bz = true) ∧ Below ((((w.alloc (.cells #[.pointer (some ⟨C, 0, none⟩)] 74)).alloc (.cells #[.slice At z ct] 47)).alloc (.cells #[.slice Ap m cp] 87)).alloc (.cells #[.func (.func 45) #[] #[.pointer (some ⟨w.heap.size, 0, none⟩), .pointer (some ⟨w.heap.size + 1 + 1, 0, none⟩), .pointer (some ⟨w.heap.size + 1, 0, none⟩), .pointer (some ⟨w.heap.size + 1 + 1 + 1, 0, none⟩)]] 103)).heap.size ((((w.alloc (.cells #[.pointer (some ⟨C, 0, none⟩)] 74)).alloc (.cells #[.slice At z ct] 47)).alloc (.cells #[.slice Ap m cp] 87)).alloc (.cells #[.func (.func 45) #[] #[.pointer (some ⟨w.heap.size, 0, none⟩), .pointer (some ⟨w.heap.size + 1 + 1, 0, none⟩), .pointer (some ⟨w.heap.size + 1, 0, none⟩), .pointer (some ⟨w.heap.size + 1 + 1 + 1, 0, none⟩)]] 103)) wr) (fun i' _ => z + 1 - (intOf i').toNat)
    case atStart => exact ⟨0, rfl, Nat.zero_le _, rfl, fun h => absurd h (Nat.lt_irrefl 0), Below.refl _ _⟩
    case round =>
      obtain ⟨k, rfl, hk, hno, hbt, hbel⟩ := hrel
      have HNO := Lib.hid hno
      have HBT := Lib.hid hbt
      have HBL := Lib.hid hbel
      have HE3 := Lib.hid (HE.out.mono hbel)
      have x0 := HE3.out.boxC.lt
      have y0 := HE3.out.boxC.cell 0 _ rfl
      have x1 := HE3.out.boxP.lt
      have y1 := HE3.out.boxP.cell 0 _ rfl
      have x2 := HE3.out.boxT.lt
      have y2 := HE3.out.boxT.cell 0 _ rfl
      have x3 := HE3.out.boxF.lt
      have y3 := HE3.out.boxF.cell 0 _ rfl
      rw [HPL.out] at y1
      rw [HZL.out] at y2
      clear hno hbt hbel
      by_cases hlt : k < z + 1
      · have HCC := Lib.hid (HFA.out k (by omega) wr HBL.out)
        obtain ⟨r, hr⟩ : ∃ r, (listsL Z k).find? p = r := ⟨_, rfl⟩
        rw [hr] at HCC
        have HR := Lib.hid hr
        have k1 : (k : Int) < (z : Int) + 1 := by omega
        clear hr
        go_wp2_with fail
        refine HCC.out.mono ?_
        rintro e w6 ⟨⟨ho1, ho2⟩, hb6⟩
        have HB6 := Lib.hid (bTrans HBL.out hb6)
        have u0 := (hb6.cell (p := ⟨w.heap.size, 0, none⟩) x0).trans y0
        have u1 := (hb6.cell (p := ⟨w.heap.size + 1 + 1, 0, none⟩) x1).trans y1
        have u2 := (hb6.cell (p := ⟨w.heap.size + 1, 0, none⟩) x2).trans y2
        have z0 := Nat.lt_of_lt_of_le x0 hb6.size
        have z1 := Nat.lt_of_lt_of_le x1 hb6.size
        have z2 := Nat.lt_of_lt_of_le x2 hb6.size
        clear y0 y1 y2 y3 x0 x1 x2 x3
        cases r with
        | some x =>
          obtain ⟨g, c, rfl, hl2⟩ := ho1 x rfl
          have HL2 := Lib.hid (show LstAt w6 (some ⟨g, 0, none⟩) c x from hl2)
          have HFF := Lib.hid (first_found HNO.out HR.out (by rw [HZL.out]; omega))
          have HBT2 := Lib.hid (show bz = true by
            rcases Nat.eq_zero_or_pos k with h | h
            · subst h
              have := HR.out
              rw [listsL_zero, List.find?_cons, HP0.out] at this
              cases this
            · exact HBT.out h)
          obtain ⟨m2, hm2⟩ : ∃ m2, ([] ++ x).length = m2 := ⟨_, rfl⟩
          have HM2 := Lib.hid hm2
          rw [hm2]
          clear ho1 ho2 hb6 hl2 hm2
          go_wp2_with fail
          go_ret2
          refine ⟨⟨fun _ => ?_, fun h => by rw [HBZ.out, HBT2.out] at h; cases h⟩, HB6.out.mono (by simp) |> bTrans HB.out⟩
          rw [HP.out, HFF.out]
          exact ⟨_, c, by rw [show x.length = m2 from HM2.out]; rfl, HL2.out⟩
        | none =>
          obtain rfl := ho2 rfl
          clear ho1 ho2 hb6
          have HF2 := Lib.hid (show firstUpTo Z p 0 (k + 1) = none by rw [firstUpTo_snoc, HNO.out, Nat.zero_add]; exact HR.out)
          rcases Nat.eq_zero_or_pos k with hk0 | hk0
          · subst hk0
            cases bz
            · go_wp2_with fail
              refine (HTD.out _ HB6.out).mono ?_
              rintro e w7 ⟨rfl, hb7⟩
              go_wp2_with fail
              go_ret2
              exact ⟨⟨(fun h => by rw [HBZ.out] at h; cases h), fun _ => rfl⟩, bTrans HB.out (bTrans HB6.out hb7)⟩
            · go_wp2_with fail
              refine (HTD.out _ HB6.out).mono ?_
              rintro e w7 ⟨rfl, hb7⟩
              have HB7 := Lib.hid (bTrans HB6.out hb7)
              clear hb7
              go_wp2_with fail
              go_roundw
              case rel =>
                first
                | exact ⟨1, by go_num, by omega, HF2.out, fun _ => trivial, HB7.out⟩
                | ((repeat apply Exists.intro)
                   refine ⟨⟨1, ?_, by omega, HF2.out, fun _ => rfl, HB7.out⟩, rfl⟩
                   go_num)
              case measure => simp [intOf]
          · have k2 : ((k : Int) == 0) = false := by simp; omega
            have HBT2 := Lib.hid (HBT.out hk0)
            go_wp2_with fail
            go_roundw
            case rel =>
              first
              | exact ⟨k + 1, by go_num, by omega, HF2.out, fun _ => HBT2.out, HB6.out⟩
              | ((repeat apply Exists.intro)
                 refine ⟨⟨k + 1, ?_, by omega, HF2.out, fun _ => HBT2.out, HB6.out⟩, rfl⟩
                 go_num)
            case measure => simp [intOf]; omega
      · obtain rfl : k = z + 1 := by omega
        exfalso
        have h1 := HNO.out
        rw [← HZL.out] at h1
        have h2 := first_all h1
        rw [← HP.out] at h2
        have h3 := HBT.out (by omega)
        rw [← HBZ.out] at h3
        simp only at h2
        rw [h3] at h2
        cases h2
end Go.Proofs.YthnojgdckkdcgaaDoor

namespace Go.Proofs.YthnojgdckkdcgaaDoor
open Go.RowKit Go.Sort
theorem pairsL_len (p : Int → Int → Bool) : ∀ L : List Int, (pairsL p L).length ≤ L.length * L.length
  | [] => Nat.le_refl _
  | a :: L => by
    have ih := pairsL_len p L
    have h1 : (L.filter (p a)).length ≤ L.length := List.length_filter_le _ _
    unfold pairsL
    rw [List.length_append, List.length_map, List.length_cons, Nat.succ_mul, Nat.mul_succ]
    omega
theorem OwnL.cap {w : World} {base : Nat} {v : Value} {l : List Int} (h : OwnL w base v l) (h0 : 0 < l.length) : ∃ g c, v = .slice (some ⟨g, 0, none⟩) l.length c ∧ l.length ≤ c ∧ c ≤ 9223372036854775807 := by
  rcases h.2 with ⟨rfl, h1⟩ | ⟨g, cap, cur, rfl, _, _, h3, h4, _⟩
  · omega
  · exact ⟨g, _, rfl, h3, by unfold maxLen at h4; omega⟩
theorem pairsL_mem {p : Int → Int → Bool} {x : Int × Int} : ∀ {L : List Int}, x ∈ pairsL p L → x.1 ∈ L ∧ x.2 ∈ L
  | [], h => by simp [pairsL] at h
  | a :: L, h => by
    unfold pairsL at h
    rcases List.mem_append.1 h with h | h
    · obtain ⟨b, hb, rfl⟩ := List.mem_map.1 h
      exact ⟨by simp, List.mem_cons_of_mem _ (List.mem_filter.1 hb).1⟩
    · obtain ⟨h1, h2⟩ := pairsL_mem h
      exact ⟨List.mem_cons_of_mem _ h1, List.mem_cons_of_mem _ h2⟩
theorem pairs_ok (t : Qt) (p : Int → Int → Bool) : t.PairsOk (pairsL p t.leftL) := fun x hx => by
  obtain ⟨h1, h2⟩ := pairsL_mem hx
  obtain ⟨i, hi, _, e1⟩ := (leftTo_mem t t.nw).1 h1
  obtain ⟨j, hj, _, e2⟩ := (leftTo_mem t t.nw).1 h2
  exact ⟨i, j, Prod.ext e1 e2, hi, hj⟩
/-- the pairs of one world with j of the others -/
def pairK (p : Int → Int → Bool) (L : List Int) (k j : Nat) (a : Int) : List (Int × Int) := (((L.drop (k + 1)).take j).filter (p a)).map fun b => (a, b)
theorem pairK_zero (p : Int → Int → Bool) (L : List Int) (k : Nat) (a : Int) : pairK p L k 0 a = [] := by simp [pairK]
theorem pairK_hit {p : Int → Int → Bool} {L : List Int} {k j : Nat} {a b : Int} (h : L[k + 1 + j]? = some b) (hp : p a b = true) : pairK p L k (j + 1) a = pairK p L k j a ++ [(a, b)] := by
  have h' : (L.drop (k + 1))[j]? = some b := by rw [List.getElem?_drop]; exact h
  unfold pairK
  rw [List.take_add_one, h']
  simp [List.filter_append, hp]
theorem pairK_miss {p : Int → Int → Bool} {L : List Int} {k j : Nat} {a b : Int} (h : L[k + 1 + j]? = some b) (hp : p a b = false) : pairK p L k (j + 1) a = pairK p L k j a := by
  have h' : (L.drop (k + 1))[j]? = some b := by rw [List.getElem?_drop]; exact h
  unfold pairK
  rw [List.take_add_one, h']
  simp [List.filter_append, hp]
theorem pairK_all {p : Int → Int → Bool} {L : List Int} {k : Nat} {a : Int} (h : L[k]? = some a) : pairsL p (L.drop k) = pairK p L k (L.length - (k + 1)) a ++ pairsL p (L.drop (k + 1)) := by
  obtain ⟨hk, rfl⟩ := List.getElem?_eq_some_iff.1 h
  rw [List.drop_eq_getElem_cons hk]
  unfold pairK
  rw [List.take_of_length_le (by rw [List.length_drop]; omega)]
  rfl
theorem pairK_len (p : Int → Int → Bool) (L : List Int) (k j : Nat) (a : Int) : (pairK p L k j a).length ≤ L.length := by
  unfold pairK
  rw [List.length_map]
  refine Nat.le_trans (List.length_filter_le _ _) (Nat.le_trans (List.take_sublist _ _).length_le ?_)
  rw [List.length_drop]
  omega
set_option maxHeartbeats 4000000 in
set_option maxRecDepth 100000 in
theorem pairs_any (Aw Af : Option Addr) (cw cf C mp s : Nat) (t : Qt) (f : Nat) (cs : Array Value) (p : Int → Int → Bool) (w : World) (hc : CourtAt w C Aw Af cw cf t s mp) (h64 : s < 64) (hbl : bitsL s = t.leftL) (hnw : t.nw ≤ 6) (hB : TabAt w) (hcf : Enters f)
    (hf : ∀ i j : Nat, i < t.nw → j < t.nw → ∀ w', Below w.heap.size w w' → Calls Tryd.prog f (#[.int .i64 i, .int .i64 j] ++ cs) w' fun e w'' => e = .returned (.bool (p i j)) ∧ Below w'.heap.size w' w'') :
    Calls Tryd.prog 33 #[.pointer (some ⟨C, 0, none⟩), .func (.func f) #[] cs] w fun e w' => (∃ v, e = .returned v ∧ OwnE prE w' w.heap.size v (pairsL p t.leftL)) ∧ Below w.heap.size w w' := by
  have HTB := Lib.hid hB
  have HF := Lib.hid hf
  have x0 := hc.box.lt
  have y0 := hc.box.cell 3 _ rfl
  have HBL := Lib.hid hbl
  unfold Enters at hcf
  clear hc hB hf hbl
  go_enter Tryd.func33, Tryd.ntmps33
  go_wp2_with fail
  refine (list_any s _ h64 HTB.out).mono ?_
  rintro e w2 ⟨⟨v, rfl, hv⟩, hb2⟩
  rw [HBL.out] at hv
  obtain ⟨A, c, rfl, hrow⟩ := hv.nums
  have HV := Lib.hid hv
  have HB2 := Lib.hid hb2
  obtain ⟨n, hn⟩ : ∃ n, t.leftL.length = n := ⟨_, rfl⟩
  have hn6 : n ≤ 6 := by have := leftTo_len t t.nw; unfold Qt.leftL at hn; omega
  rw [hn]
  have HN := Lib.hid hn
  obtain ⟨L, hL⟩ : ∃ L, t.leftL = L := ⟨_, rfl⟩
  have HL := Lib.hid hL
  have hz2 := hb2.size
  clear hv hrow hb2 hn x0 y0 hL
  go_wp2_with fail
  go_loopw [5, 18] (fun v i wr => ∃ (k : Nat) (done : List (Int × Int)), i = .int .i64 k ∧ k ≤ n ∧ OwnE prE wr w2.heap.size v done ∧ done ++ pairsL p (L.drop k) = pairsL p L ∧ Below w2.heap.size w2 wr) (fun _ i _ => n - (intOf i).toNat)
  case atStart => exact ⟨0, [], rfl, Nat.zero_le _, OwnE.nil _ _ _, rfl, Below.refl _ _⟩
  case round =>
    obtain ⟨k, done, rfl, hk, hown, hdone, hbel⟩ := hrel
    have HO := Lib.hid hown
    have HD := Lib.hid hdone
    have HBB := Lib.hid hbel
    have HDL := Lib.hid (show done.length ≤ 36 by
      have h1 := congrArg List.length hdone
      rw [List.length_append] at h1
      have h2 := pairsL_len p L
      have h3 : L.length ≤ 6 := by rw [← HL.out, HN.out]; exact hn6
      have h4 : L.length * L.length ≤ 6 * 6 := Nat.mul_le_mul h3 h3
      omega)
    clear hown hdone hbel
    by_cases hlt : k < n
    · obtain ⟨g, c', e1, hcap1, hcap2⟩ := (HV.out.mono HBB.out).cap (by rw [HN.out]; omega)
      simp only [Value.slice.injEq, true_and] at e1
      obtain ⟨rfl, e3, rfl⟩ := e1
      try clear e3
      rw [HN.out] at hcap1
      obtain ⟨x, hx⟩ : ∃ x, t.leftL[k]? = some x := ⟨_, List.getElem?_eq_getElem (by rw [HN.out]; exact hlt)⟩
      obtain ⟨i, rfl, hi, _⟩ := leftL_at hx
      obtain ⟨A1, c1, e1, hrow⟩ := (HV.out.mono HBB.out).nums
      simp only [Value.slice.injEq] at e1
      obtain ⟨rfl, e3, rfl⟩ := e1
      try clear e3
      obtain ⟨b, o, e4, hbs, c0⟩ := hrow.num hx
      simp only [Option.some.injEq, Addr.mk.injEq, and_true] at e4
      obtain ⟨rfl, rfl⟩ := e4
      rw [Nat.zero_add] at c0
      have HX := Lib.hid (HL.out ▸ hx : L[k]? = some (i : Int))
      have k0 : (0 : Int) ≤ (k : Int) := by omega
      have e6 : IntKind.i64.wrap ((k : Int) + 1) = (k : Int) + 1 := IntWalk.i64_in _ (by omega)
      have e7 : ((k : Int) + 1).toNat = k + 1 := by omega
      have k3 : (0 : Int) ≤ (k : Int) + 1 := by omega
      obtain ⟨r, hr⟩ : ∃ r, n - (k + 1) = r := ⟨_, rfl⟩
      obtain ⟨rc, hrc⟩ : ∃ rc, c - (k + 1) = rc := ⟨_, rfl⟩
      have k1 : (k : Int) < (n : Int) := by omega
      have k4 : (k : Int) + 1 ≤ (n : Int) := by omega
      have k5 : k + 1 ≤ n := by omega
      have HALL := Lib.hid (pairK_all (p := p) HX.out)
      rw [show L.length - (k + 1) = r by rw [← HL.out, HN.out]; exact hr] at HALL
      have HR := Lib.hid hr
      clear hx hrow
      rcases Nat.eq_zero_or_pos r with hr0 | hr0
      · subst hr0
        have HD2 := Lib.hid (show done ++ pairsL p (L.drop (k + 1)) = pairsL p L by
          have := HD.out
          rw [HALL.out, pairK_zero] at this
          exact this)
        rcases Nat.lt_or_ge (k + 1) c with hkc | hkc
        all_goals
          first | (have hkc : k + 1 = c := by omega) | skip
          go_wp2_with fail
          go_loopw [5, 28] (fun v i wq => i = .int .i64 0 ∧ OwnE prE wq w2.heap.size v done ∧ Below w2.heap.size w2 wq) (fun _ _ _ => 0)
          case atStart => exact ⟨rfl, HO.out, HBB.out⟩
          case round =>
            obtain ⟨rfl, hown, hbel⟩ := hrel
            have HO2 := Lib.hid hown
            have HB3 := Lib.hid hbel
            clear hown hbel
            go_wp2_with fail
            go_roundw
            case rel =>
              first
              | exact ⟨k + 1, done, by go_num, by omega, HO2.out, HD2.out, HB3.out⟩
              | ((repeat apply Exists.intro)
                 refine ⟨⟨k + 1, done, ?_, by omega, HO2.out, HD2.out, HB3.out⟩, rfl⟩
                 go_num)
            case measure => simp [intOf]; omega
      · have k8 : k + 1 < c := by omega
        go_wp2_with fail
        go_loopw [5, 28] (fun v i' wq => ∃ j : Nat, i' = .int .i64 j ∧ j ≤ r ∧ OwnE prE wq w2.heap.size v (done ++ pairK p L k j i) ∧ Below w2.heap.size w2 wq) (fun _ i _ => r - (intOf i).toNat)
        case atStart => exact ⟨0, rfl, Nat.zero_le _, by rw [pairK_zero, List.append_nil]; exact HO.out, HBB.out⟩
        case round =>
          obtain ⟨j, rfl, hj, hown, hbel⟩ := hrel
          have HO2 := Lib.hid hown
          have HB3 := Lib.hid hbel
          have HL2 := Lib.hid (show (done ++ pairK p L k j i).length ≤ 1000 by
            rw [List.length_append]
            have h1 := HDL.out
            have h2 := pairK_len p L k j i
            have h3 : L.length ≤ 6 := by rw [← HL.out, HN.out]; exact hn6
            omega)
          have hsz := hbel.size
          clear hown hbel
          by_cases hjl : j < r
          · obtain ⟨y, hy⟩ : ∃ y, t.leftL[k + 1 + j]? = some y := ⟨_, List.getElem?_eq_getElem (by rw [HN.out]; have := HR.out; omega)⟩
            obtain ⟨i2, rfl, hi2, _⟩ := leftL_at hy
            obtain ⟨A1, c1, e1, hrow⟩ := (HV.out.mono HB3.out).nums
            simp only [Value.slice.injEq] at e1
            obtain ⟨rfl, e3, rfl⟩ := e1
            try clear e3
            obtain ⟨b, o, e4, hbs2, c2⟩ := hrow.num hy
            simp only [Option.some.injEq, Addr.mk.injEq, and_true] at e4
            obtain ⟨rfl, rfl⟩ := e4
            rw [Nat.zero_add] at c2
            have HY := Lib.hid (HL.out ▸ hy : L[k + 1 + j]? = some (i2 : Int))
            have j1 : (j : Int) < (r : Int) := by omega
            obtain ⟨bp, hbp⟩ : ∃ bp, p (i : Int) (i2 : Int) = bp := ⟨_, rfl⟩
            have HBP := Lib.hid hbp
            have HFC := Lib.hid (hbp ▸ HF.out i i2 hi hi2 wr (bTrans HB2.out HB3.out) : Calls Tryd.prog f (#[.int .i64 i, .int .i64 i2] ++ cs) wr fun e w'' => e = .returned (.bool bp) ∧ Below wr.heap.size wr w'')
            clear hy hrow hbp
            go_wp2_with fail
            refine HFC.out.mono ?_
            rintro e w4 ⟨rfl, hb4⟩
            have HO4 := Lib.hid (HO2.out.mono hb4)
            have HB4 := Lib.hid (bTrans HB3.out hb4)
            have hs4 := hb4.size
            clear hb4 c2 hbs2
            cases bp
            · have HS := Lib.hid (pairK_miss HY.out HBP.out)
              go_wp2_with fail
              go_roundw
              case rel =>
                first
                | exact ⟨j + 1, by go_num, by omega, by rw [HS.out]; exact HO4.out, HB4.out⟩
                | ((repeat apply Exists.intro)
                   refine ⟨⟨j + 1, ?_, by omega, by rw [HS.out]; exact HO4.out, HB4.out⟩, rfl⟩
                   go_num)
              case measure => simp [intOf]; omega
            · have HS := Lib.hid (pairK_hit HY.out HBP.out)
              go_wp2_with (at_builtin; refine wpList_snocE prG _ rfl (Operand.tmp 36) (Operand.tmp 40) rfl w2.heap.size _ (done ++ pairK p L k j i) ((i : Int), (i2 : Int)) rfl ?q1 w4.heap.size rfl ?q2 ?q3 ?q4 ?_)
              case q1 => exact HO4.out.mono (bAlloc (Below.refl _ _) _)
              case q2 =>
                intro a u hu
                match a, hu with
                | 0, hu =>
                  obtain rfl : Value.int .i64 i = u := by simpa [prE] using hu
                  simp [go_sem]
                | 1, hu =>
                  obtain rfl : Value.int .i64 i2 = u := by simpa [prE] using hu
                  simp [go_sem]
              case q3 => have := HL2.out; omega
              case q4 => simp; omega
              intro v' w5 hown5 hb5 _ _
              have HO5 := Lib.hid hown5
              have HB5 := Lib.hid (hb5 w2.heap.size w2 (Nat.le_refl _) (bAlloc HB4.out _))
              clear hown5 hb5
              go_wp2_with fail
              go_roundw
              case rel =>
                refine ⟨j + 1, ?_, ?_, ?_, ?_⟩
                · go_num
                · omega
                · rw [HS.out]; first | exact HO5.out | (rw [← List.append_assoc]; exact HO5.out)
                · exact HB5.out
              case measure => simp [intOf]; omega
          · obtain rfl : j = r := by omega
            have HD2 := Lib.hid (show (done ++ pairK p L k j i) ++ pairsL p (L.drop (k + 1)) = pairsL p L by
              rw [List.append_assoc, ← HALL.out]
              exact HD.out)
            go_wp2_with fail
            go_roundw
            case rel =>
              refine ⟨k + 1, _, ?_, ?_, HO2.out, HD2.out, HB3.out⟩
              · go_num
              · omega
            case measure => simp [intOf]; omega
    · obtain rfl : k = n := by omega
      have HE := Lib.hid (show done = pairsL p t.leftL by
        have := HD.out
        rw [List.drop_eq_nil_of_le (by rw [← HL.out, HN.out]; exact Nat.le_refl _)] at this
        rw [HL.out, ← this]
        simp [pairsL])
      go_wp2_with fail
      go_ret
      exact ⟨⟨_, rfl, by rw [← HE.out]; exact HO.out.lower hz2⟩, bTrans HB2.out HBB.out⟩
end Go.Proofs.YthnojgdckkdcgaaDoor

namespace Go.Proofs.YthnojgdckkdcgaaDoor
open Go.RowKit Go.Sort Go.Shelf
section
variable {F : Fence} {n : Nat} {P : Program} {w : World}
/-- the contract of an iterator that is a method's value -/
def SeqB {α : Type} (F : Fence) (n : Nat) (P : Program) (gf : Nat) (bnd : Array Value) (encs : α → Array Value) (Kp : World → World → Prop) (S Sp : List α → Prop) (N : List α → α → Prop) (w : World) : Prop :=
  ∀ (l : Nat) (J Jx : List α → World → Prop) (W : World), Below w.heap.size w W → AbidesFrom W.heap.size J → AbidesFrom W.heap.size Jx →
    (∀ pre x W1, J pre W1 → N pre x → YieldAt F (n - 1) P l (encs x) W1 fun e W' => (e = .returned (.bool true) ∧ J (pre ++ [x]) W' ∧ Kp W1 W') ∨ (e = .returned (.bool false) ∧ Jx (pre ++ [x]) W')) →
    J [] W → CallsIn F n P gf (bnd ++ #[.func (.yield l) #[] #[]]) W fun e W' => (∃ v, e = .returned v) ∧ ((∃ xs, S xs ∧ J xs W') ∨ (∃ pre, Sp pre ∧ Jx pre W'))
theorem wpIn_range_bound {α : Type} {g : Operand} {ps : Array Tmp} {assign body : Code} {Q : Exit → Act → World → Prop} {a : Act}
    (hro : F.round = none) (h1 : 1 ≤ n) {gf : Nat} {bnd : Array Value} (hg : a.eval g = .func (.func gf) bnd #[]) (hFg : F.fn gf) (eg : ∀ args w, (callFunc gf args).run P w = .ok (.enter gf args) w)
    {encs : α → Array Value} {Kp : World → World → Prop} {S Sp : List α → Prop} {N : List α → α → Prop} (hseq : SeqB F (n - 1) P gf bnd encs Kp S Sp N w)
    (hKt : ∀ {A B C : World}, Kp A B → Kp B C → Kp A C) (hKb : ∀ (W : World) (l : Nat) (o o' : Obj), w.heap.size ≤ l → W.heap[l]? = some o → o.isCells = false → Kp W (W.putObj l o')) (hps : ∀ x, (encs x).size = ps.size)
    (I : List α → World → Prop) (Ix : Code → List α → World → Prop) (hI : OwnFrom w.heap.size I) (hIx : ∀ c, OwnFrom w.heap.size (Ix c)) (h0 : I [] w) (Ax : α → Act → World → Prop) (hAx : ∀ x a', OwnFrom w.heap.size (fun (_ : Unit) W => Ax x a' W))
    (hassign : ∀ (l : Nat) (pre : List α) (x : α) (W : World) (K : Act → World → Prop), w.heap.size ≤ W.heap.size → I pre W → (∀ a' W', KeepsFrom w.heap.size W W' → Kp W W' → I pre W' → Ax x a' W' → K a' W') →
      assign.wpIn (F.inRound l) (n - 1 - 1) P (Exit.then K (fun _ _ _ => False)) { tmps := (ps.zip (encs x)).foldl (fun t (p, v) => t.setIfInBounds p v) a.tmps, defers := [] } W)
    (hbody : ∀ (l : Nat) (pre : List α) (x : α) (a' : Act) (W : World), w.heap.size ≤ W.heap.size → I pre W → Ax x a' W → N pre x → body.wpIn (F.inRound l) (n - 1 - 1) P (ownPostG w.heap.size Kp I Ix (pre ++ [x]) W) a' W)
    (hdone : ∀ (D : Nat) (xs : List α) (W : World), w.heap.size ≤ D → S xs → I xs W → W.heap[D]? = some (.deferred (some [])) → Q .normal { a with defers := { target := .collected D, args := #[] } :: a.defers } W)
    (hstop : ∀ (D : Nat) (c : Code) (pre : List α) (W : World), w.heap.size ≤ D → Sp pre → Ix c pre W → W.heap[D]? = some (.deferred (some [])) → c.wpIn F n P Q { a with defers := { target := .collected D, args := #[] } :: a.defers } W) :
    (Code.rangeFunc g ps assign body).wpIn F n P Q a w := by
  refine wpIn_rangeFunc fun fn hfn => ?_
  rw [hro]
  obtain ⟨rec, hrec⟩ : ∃ rec : LoopState → Option Code → Loop, rec = fun st pe => { state := st, pending := pe, fn, tmps := a.tmps, params := ps, assign, body, defers := w.heap.size } := ⟨_, rfl⟩
  obtain ⟨W1, hW1⟩ : ∃ W1, (w.alloc (.deferred (some []))).alloc (.loop (rec .ready none)) = W1 := ⟨_, rfl⟩
  have hL1 : W1.heap[w.heap.size + 1]? = some (.loop (rec .ready none)) := by
    rw [← hW1]; have := World.alloc_heap_new (w.alloc (.deferred (some []))) (.loop (rec .ready none)); rwa [World.size_alloc] at this
  have hK1 : W1.heap[w.heap.size]? = some (.deferred (some [])) := by
    rw [← hW1]; exact (Below.heap_alloc _ _ _ (by simp)).trans (World.alloc_heap_new w _)
  have hI1 : I [] W1 := by rw [← hW1]; exact hI.alloc _ (hI.alloc _ h0)
  have hb1 : Below w.heap.size w W1 := by rw [← hW1]; exact bAlloc (bAlloc (Below.refl _ _) _) _
  refine ⟨w.heap.size + 1, [{ target := .collected w.heap.size, args := #[] }], W1, { target := .fn (.func gf) #[], args := bnd ++ #[.func (.yield (w.heap.size + 1)) #[] #[]] }, W1, gf,
    bnd ++ #[.func (.yield (w.heap.size + 1)) #[] #[]], W1, ?_, ?_, ?_, ?_, fun _ => h1, ?_⟩
  · rw [← hW1, hrec]; exact run_enterLoop_outer _ _ _ _ _
  · simp only [resolve, hg]
    simp [go_sem]
  · intro f' hf'; simp [Target.leads] at hf'; subst hf'; exact hFg
  · simp [invoke, go_sem, eg]
  · have hnw : ∀ {A B : World} {row : Option Nat}, (∀ r, row = some r → W1.heap.size ≤ r ∧ ∃ o : Obj, A.heap[r]? = some o ∧ o.isWalk = true) → (∀ r, row = some r → w.heap.size ≤ r ∧ ∃ o : Obj, A.heap[r]? = some o ∧ o.isCells = false) :=
      fun hr r e => by obtain ⟨hB, o, ho, hw⟩ := hr r e; exact ⟨by rw [← hW1] at hB; simp at hB; omega, o, ho, Obj.not_cells_of_walk hw⟩
    refine (hseq (w.heap.size + 1)
      (fun pre W => I pre W ∧ W.heap[w.heap.size + 1]? = some (.loop (rec .ready none)) ∧ W.heap[w.heap.size]? = some (.deferred (some [])))
      (fun pre W => ∃ c, Ix c pre W ∧ W.heap[w.heap.size + 1]? = some (.loop (rec .done (some c))) ∧ W.heap[w.heap.size]? = some (.deferred (some []))) W1 hb1
      (fun s A B row hs hg' hr => ⟨hI s A B row hs.1 hg' (hnw (B := B) hr), (grownBy_keeps hg' (fun r e => (hr r e).2) hs.2.1 rfl).trans hs.2.1, (grownBy_keeps hg' (fun r e => (hr r e).2) hs.2.2 rfl).trans hs.2.2⟩)
      (fun s A B row ⟨c, hc, hl, hk⟩ hg' hr => ⟨c, hIx c s A B row hc hg' (hnw (B := B) hr), (grownBy_keeps hg' (fun r e => (hr r e).2) hl rfl).trans hl, (grownBy_keeps hg' (fun r e => (hr r e).2) hk rfl).trans hk⟩) ?_ ⟨hI1, hL1, hK1⟩).mono ?_
    · rintro pre x W ⟨hi, hl, hk⟩ hlen
      have hlt : w.heap.size + 1 < W.heap.size := (Array.getElem?_eq_some_iff.1 hl).1
      have hy := run_yield (P := P) (args := encs x) hl (by rw [hrec]; exact hps x)
      rw [hrec] at hy
      refine ⟨fn, _, assign, body, hy, roundIn_of_wpIn hfn (hassign _ pre x W _ (by omega) hi ?_)⟩
      intro a' Wa hkfa hkpa hia hax
      have hla := hkfa.same _ _ (by omega) hl rfl
      have hka := hkfa.same _ _ (Nat.le_refl _) hk rfl
      have hlta : w.heap.size + 1 < Wa.heap.size := (Array.getElem?_eq_some_iff.1 hla).1
      refine ⟨_, run_beginRound hla (by rw [hrec]), ?_⟩
      obtain ⟨B, hBd⟩ : ∃ B, Wa.putObj (w.heap.size + 1) (.loop { rec .ready none with state := .busy }) = B := ⟨_, rfl⟩
      rw [hBd]
      have hl2 : B.heap[w.heap.size + 1]? = some (.loop { rec .ready none with state := .busy }) := by rw [← hBd]; exact World.putObj_heap_same hlta
      have hk2 : B.heap[w.heap.size]? = some (.deferred (some [])) := by rw [← hBd]; exact (World.putObj_heap_other (by omega)).trans hka
      have hw2 : Kp Wa B := by rw [← hBd]; exact hKb _ _ _ _ (by omega) hla rfl
      have hiB : I pre B := by rw [← hBd]; exact hI.putObj _ hia (by omega) hla rfl
      have haB : Ax x a' B := by rw [← hBd]; exact (hAx x a').putObj (s := ()) _ hax (by omega) hla rfl
      have hsB : w.heap.size ≤ B.heap.size := by have := (Array.getElem?_eq_some_iff.1 hl2).1; omega
      refine wpIn_mono (hbody _ pre x a' B hsB hiB haB hlen) ?_
      have fin : ∀ (jump : Option Code) (W3 : World), KeepsFrom w.heap.size B W3 →
          (Instr.endRound (w.heap.size + 1) jump).run P W3 = .ok (.bool jump.isNone) (W3.putObj (w.heap.size + 1) (.loop (rec (if jump.isNone then .ready else .done) jump))) ∧
          W3.heap[w.heap.size + 1]? = some (.loop { rec .ready none with state := .busy }) ∧
          (W3.putObj (w.heap.size + 1) (.loop (rec (if jump.isNone then .ready else .done) jump))).heap[w.heap.size + 1]? = some (.loop (rec (if jump.isNone then .ready else .done) jump)) ∧
          (W3.putObj (w.heap.size + 1) (.loop (rec (if jump.isNone then .ready else .done) jump))).heap[w.heap.size]? = some (.deferred (some [])) := fun jump W3 hk3 => by
        have hl3 := hk3.same _ _ (by omega) hl2 rfl
        have := run_endRound (P := P) jump hl3
        rw [hrec] at this ⊢
        exact ⟨this, by rw [hrec] at hl3; exact hl3, World.putObj_heap_same (Array.getElem?_eq_some_iff.1 hl3).1, (World.putObj_heap_other (by omega)).trans (hk3.same _ _ (Nat.le_refl _) hk2 rfl)⟩
      rintro e a3 W3 hp
      cases e with
      | normal =>
        obtain ⟨hk3, hkp3, hi3⟩ := hp
        obtain ⟨hr, hl3, hl4, hk4⟩ := fin none W3 hk3
        exact ⟨_, _, hr, .inl ⟨rfl, ⟨hI.putObj _ hi3 (by omega) hl3 rfl, hl4, hk4⟩, hKt hkpa (hKt (hKt hw2 hkp3) (hKb _ _ _ _ (by omega) hl3 rfl))⟩⟩
      | ret =>
        obtain ⟨hr, hl3, hl4, hk4⟩ := fin (some .ret) W3 hp.1
        exact ⟨_, _, hr, .inr ⟨rfl, .ret, (hIx _).putObj _ hp.2 (by omega) hl3 rfl, hl4, hk4⟩⟩
      | exit id =>
        obtain ⟨hr, hl3, hl4, hk4⟩ := fin (some (.exit id)) W3 hp.1
        exact ⟨_, _, hr, .inr ⟨rfl, .exit id, (hIx _).putObj _ hp.2 (by omega) hl3 rfl, hl4, hk4⟩⟩
      | goto t =>
        obtain ⟨hr, hl3, hl4, hk4⟩ := fin (some (.goto t)) W3 hp.1
        exact ⟨_, _, hr, .inr ⟨rfl, .goto t, (hIx _).putObj _ hp.2 (by omega) hl3 rfl, hl4, hk4⟩⟩
      | panic ch => exact hp.elim
      | outgrown => exact hp.elim
    · rintro e W2 ⟨⟨v, rfl⟩, (⟨xs, hS, hi, hl, hk⟩ | ⟨pre, hSp, c, hi, hl, hk⟩)⟩
      · exact ⟨none, _, by have := run_endLoop (P := P) hl (by rw [hrec]; simp); rw [hrec] at this; exact this, hdone _ xs _ (Nat.le_refl _) hS (hI.putObj _ hi (by omega) hl rfl) ((World.putObj_heap_other (by omega)).trans hk)⟩
      · exact ⟨some c, _, by have := run_endLoop (P := P) hl (by rw [hrec]; simp); rw [hrec] at this; exact this, hstop _ c pre _ (Nat.le_refl _) hSp ((hIx c).putObj _ hi (by omega) hl rfl) ((World.putObj_heap_other (by omega)).trans hk)⟩
end
end Go.Proofs.YthnojgdckkdcgaaDoor

