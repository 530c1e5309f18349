/- Parts joined: what the claim TopToldApart needs beyond the others. -/
import Derived.Deep.LoopGhost
import Derived.Test.YthnojgdckkdcgaaGreatDoorNQTopToldApartA
set_option linter.unusedSimpArgs false
set_option linter.unusedVariables false
namespace Go.Proofs.YthnojgdckkdcgaaGreatDoor
open Go.RowKit Go.Sort
/-- two worlds that are left are told apart if they must be -/
def Pt.goodQ (t : Pt) (i : Nat) (l : List Tp) (x y : Nat) : Prop := t.unlike i (intL0 t.q.leftL x) (intL0 t.q.leftL y) = true → t.q.someB l (intL0 t.q.leftL x) (intL0 t.q.leftL y) = true
theorem decB_good {t : Pt} {i : Nat} {l : List Tp} {n : Nat} (hn : t.q.leftL.length = n) (h : ∀ x y, x < n → y < x → t.goodQ i l x y) : t.decB i l = true := by
  unfold Pt.decB
  rw [Bool.not_eq_true', anyB_false, hn]
  refine fun x hx => anyB_false.2 fun y hy => ?_
  have h1 := h x y hx hy
  unfold Pt.goodQ at h1
  cases hu : t.unlike i (intL0 t.q.leftL x) (intL0 t.q.leftL y)
  · rfl
  · rw [h1 hu]; rfl
theorem decB_bad {t : Pt} {i : Nat} {l : List Tp} {x y : Nat} (hx : x < t.q.leftL.length) (hy : y < x) (h1 : t.unlike i (intL0 t.q.leftL x) (intL0 t.q.leftL y) = true) (h2 : t.q.someB l (intL0 t.q.leftL x) (intL0 t.q.leftL y) = false) : t.decB i l = false := by
  unfold Pt.decB
  rw [Bool.not_eq_false', anyB_true]
  exact ⟨x, hx, anyB_true.2 ⟨y, hy, by rw [h1, h2]; rfl⟩⟩
theorem someB_none {t : Qt} {l : List Tp} {a b : Int} (h : ∀ z, z < l.length → t.apart (tget l z) a b = false) : t.someB l a b = false := by
  unfold Qt.someB
  rw [← any_tget, anyB_false]
  exact h
theorem someB_hit {t : Qt} {l : List Tp} {a b : Int} {z : Nat} (hz : z < l.length) (h : t.apart (tget l z) a b = true) : t.someB l a b = true := by
  unfold Qt.someB
  rw [← any_tget, anyB_true]
  exact ⟨z, hz, h⟩
set_option maxHeartbeats 16000000 in
set_option maxRecDepth 100000 in
theorem decideP_any (C : Nat) (Aw Af Ao Ap As : Option Addr) (cw cf co cp cs : Nat) (t : Pt) (Al : Option Addr) (cl i : Nat) (A : Option Addr) (c : Nat) (l : List Tp) (w : World) (hst : StreetAt w C Aw Af Ao Ap As cw cf co cp cs t Al cl) (ok : t.Ok) (hi : i < t.ns) (hl : t.q.TestsOk l) (hA : RowAt w A (tstE.cells l)) (hlen : l.length ≤ 100000) :
    Calls Tryz.prog 102 #[.pointer (some ⟨C, 0, none⟩), .int .i64 i, .slice A l.length c] w fun e w' => e = .returned (.bool (t.decB i l)) ∧ Below w.heap.size w w' := by
  have HST := Lib.hid hst
  have HOK := Lib.hid ok
  have HI := Lib.hid hi
  have HLO := Lib.hid hl
  have HAA := Lib.hid hA
  have hl6 := left_len ok.q
  have hcap := hst.sep.2
  have hbx := hst.box
  obtain ⟨n, hn⟩ : ∃ n, t.q.leftL.length = n := ⟨_, rfl⟩
  obtain ⟨m, hm⟩ : ∃ m, l.length = m := ⟨_, rfl⟩
  have HN := Lib.hid hn
  have HM := Lib.hid hm
  rw [hn] at hl6 hcap hbx
  rw [hm] at hlen ⊢
  obtain ⟨B, hB⟩ : ∃ B, t.decB i l = B := ⟨_, rfl⟩
  have HBB := Lib.hid hB
  rw [hB]
  obtain ⟨c0, c1, c2, c3, c4, c5, c6, c7, c8, c9, hCl⟩ := hbx.c10
  clear hst ok hi hl hA hn hm hB hbx
  go_enter Tryz.func102, Tryz.ntmps102
  go_wp2_with fail
  clear c0 c1 c2 c3 c4 c5 c6 c7 c8 c9 hCl
  go_loopg [18] n (fun g s18 wr => ∃ j : Nat, j + g = n ∧ s18 = .int .i64 (j : Int) ∧ (∀ x y, x < j → y < x → t.goodQ i l x y) ∧ Below w.heap.size w wr)
  case atStart => exact ⟨0, by omega, rfl, fun x y h => absurd h (Nat.not_lt_zero _), Below.refl _ _⟩
  case round =>
    obtain ⟨j, hjg, rfl, hgd, hbel⟩ := hrel
    have HGD := Lib.hid hgd
    have HL := Lib.hid hbel
    have hbx := (HST.out.mono hbel).box
    rw [HN.out] at hbx
    obtain ⟨c0, c1, c2, c3, c4, c5, c6, c7, c8, c9, hCl⟩ := hbx.c10
    clear hbel hgd hbx
    cases gk with
    | zero =>
      have h1 : ¬ (j : Int) < (n : Int) := by omega
      have HR := Lib.hid (show B = true by rw [← HBB.out]; exact decB_good HN.out fun x y hx hy => HGD.out x y (by omega) hy)
      go_wp2_with fail
      go_ret
      exact ⟨by rw [HR.out] <;> rfl, HL.out⟩
    | succ g =>
      have h1 : (j : Int) < (n : Int) := by omega
      have hjn : j < n := by omega
      obtain ⟨bl, ol, a, hA4, hbl, cl0, ha, haw⟩ := left_get (t := t) (HST.out.mono HL.out).left (k := j) (by rw [HN.out]; exact hjn)
      subst hA4
      have HAJ := Lib.hid ha
      have HAW := Lib.hid haw
      have j0 : (0 : Int) ≤ (j : Int) := by omega
      have jc : (j : Int) ≤ (cl : Int) := by omega
      clear ha haw
      go_wp2_with fail
      go_step3
      go_wp2_with fail
      go_step3
      go_wp2_with fail
      clear cl0 hbl c0 c1 c2 c3 c4 c5 c6 c7 c8 c9 hCl
      go_loopg [30] j (fun g2 s30 wx => ∃ k : Nat, k + g2 = j ∧ s30 = .int .i64 (k : Int) ∧ (∀ y, y < k → t.goodQ i l j y) ∧ Below w.heap.size w wx)
      case atStart => exact ⟨0, by omega, rfl, fun y h => absurd h (Nat.not_lt_zero _), HL.out⟩
      case round =>
        obtain ⟨k, hkg, rfl, hgk, hbel⟩ := hrel
        have HGK := Lib.hid hgk
        have HX := Lib.hid hbel
        clear hbel hgk
        cases gk with
        | zero =>
          have h2 : ¬ (k : Int) < (j : Int) := by omega
          have HG2 := Lib.hid (show ∀ x y, x < j + 1 → y < x → t.goodQ i l x y from fun x y hx hy => by
            rcases Nat.lt_or_ge x j with h | h
            · exact HGD.out x y h hy
            · obtain rfl : x = j := by omega
              exact HGK.out y (by omega))
          go_wp2_with fail
          go_roundg g
          case measure => omega
          case rel =>
            first
            | exact ⟨j + 1, by omega, by go_num, HG2.out, HX.out⟩
            | ((repeat apply Exists.intro)
               refine ⟨⟨j + 1, by omega, ?_, HG2.out, HX.out⟩, rfl⟩
               go_num)
        | succ g2 =>
          have h2 : (k : Int) < (j : Int) := by omega
          have hkj : k < j := by omega
          obtain ⟨bl', ol', b, hA5, hbl, cl0, hb, hbw⟩ := left_get (t := t) (HST.out.mono HX.out).left (k := k) (by rw [HN.out]; omega)
          simp only [Option.some.injEq, Addr.mk.injEq, and_true] at hA5
          obtain ⟨rfl, rfl⟩ := hA5
          have HBK := Lib.hid hb
          have HBW := Lib.hid hbw
          obtain ⟨u, hu⟩ : ∃ u, t.unlike i (a : Int) (b : Int) = u := ⟨_, rfl⟩
          have HU := Lib.hid hu
          clear hb hbw hu
          go_wp2_with fail
          refine (HU.out ▸ unlikeP_any C Aw Af Ao Ap As cw cf co cp cs t _ cl i a b _ (HST.out.mono HX.out) HOK.out HI.out HAW.out HBW.out).mono ?_
          rintro e w4 ⟨rfl, hb4⟩
          have HX4 := Lib.hid (bTrans HX.out hb4)
          clear hb4 cl0 hbl
          cases u
          · have HG2 := Lib.hid (show ∀ y, y < k + 1 → t.goodQ i l j y from fun y hy => by
              rcases Nat.lt_or_ge y k with h | h
              · exact HGK.out y h
              · obtain rfl : y = k := by omega
                unfold Pt.goodQ
                rw [HAJ.out, HBK.out, HU.out]
                intro h; cases h)
            go_wp2_with fail
            go_roundg g2
            case measure => omega
            case rel =>
              first
              | exact ⟨k + 1, by omega, by go_num, HG2.out, HX4.out⟩
              | ((repeat apply Exists.intro)
                 refine ⟨⟨k + 1, by omega, ?_, HG2.out, HX4.out⟩, rfl⟩
                 go_num)
          · go_wp2_with fail
            go_loopg [42] m (fun g3 s42 wy => ∃ z : Nat, z + g3 = m ∧ s42 = .int .i64 (z : Int) ∧ (∀ y, y < z → t.q.apart (tget l y) (a : Int) (b : Int) = false) ∧ Below w.heap.size w wy)
            case atStart => exact ⟨0, by omega, rfl, fun y h => absurd h (Nat.not_lt_zero _), HX4.out⟩
            case round =>
              obtain ⟨z, hzg, rfl, hgz, hbel⟩ := hrel
              have HGZ := Lib.hid hgz
              have HZ := Lib.hid hbel
              clear hbel hgz
              cases gk with
              | zero =>
                have h3 : ¬ (z : Int) < (m : Int) := by omega
                have HR := Lib.hid (show B = false by
                  rw [← HBB.out]
                  exact decB_bad (x := j) (y := k) (by rw [HN.out]; exact hjn) hkj (by rw [HAJ.out, HBK.out]; exact HU.out) (by rw [HAJ.out, HBK.out]; exact someB_none fun y hy => HGZ.out y (by rw [HM.out] at hy; omega)))
                go_wp2_with fail
                go_ret
                exact ⟨by rw [HR.out] <;> rfl, HZ.out⟩
              | succ g3 =>
                have h3 : (z : Int) < (m : Int) := by omega
                have hzm : z < m := by omega
                have hget := tget_some (l := l) (i := z) (by rw [HM.out]; exact hzm)
                have HTO := Lib.hid (HLO.out _ (tget_mem (l := l) (i := z) (by rw [HM.out]; exact hzm)))
                obtain ⟨x, hx⟩ : ∃ x, tget l z = x := ⟨_, rfl⟩
                rw [hx] at hget HTO
                have HXE := Lib.hid hx
                obtain ⟨bs, os, hAs, hbs, d0, d1⟩ := SliceE.tst (HAA.out.mono HZ.out) hget
                subst hAs
                obtain ⟨p, q⟩ := x
                obtain ⟨v, hv⟩ : ∃ v, t.q.apart (p, q) (a : Int) (b : Int) = v := ⟨_, rfl⟩
                have HV := Lib.hid hv
                clear hx hget hv
                go_wp2_with fail
                refine (HV.out ▸ tellsP_any C Aw Af Ao Ap As cw cf co cp cs t _ cl p q a b _ ((HST.out.mono HZ.out).mono (bAlloc (Below.refl _ _) _)) HOK.out HTO.out.1 HTO.out.2 HAW.out HBW.out).mono ?_
                rintro e w5 ⟨rfl, hb5⟩
                have HZ5 := Lib.hid (bTrans HZ.out (bTrans (bAlloc (Below.refl _ _) _) hb5))
                clear hb5 d0 d1 hbs
                cases v
                · have HG3 := Lib.hid (show ∀ y, y < z + 1 → t.q.apart (tget l y) (a : Int) (b : Int) = false from fun y hy => by
                    rcases Nat.lt_or_ge y z with h | h
                    · exact HGZ.out y h
                    · obtain rfl : y = z := by omega
                      rw [HXE.out]; exact HV.out)
                  go_wp2_with fail
                  go_roundg g3
                  case measure => omega
                  case rel =>
                    first
                    | exact ⟨z + 1, by omega, by go_num, HG3.out, HZ5.out⟩
                    | ((repeat apply Exists.intro)
                       refine ⟨⟨z + 1, by omega, ?_, HG3.out, HZ5.out⟩, rfl⟩
                       go_num)
                · have HG2 := Lib.hid (show ∀ y, y < k + 1 → t.goodQ i l j y from fun y hy => by
                    rcases Nat.lt_or_ge y k with h | h
                    · exact HGK.out y h
                    · obtain rfl : y = k := by omega
                      unfold Pt.goodQ
                      rw [HAJ.out, HBK.out]
                      exact fun _ => someB_hit (z := z) (by rw [HM.out]; exact hzm) (by rw [HXE.out]; exact HV.out))
                  go_wp2_with fail
                  go_roundg g2
                  case measure => omega
                  case rel =>
                    first
                    | exact ⟨k + 1, by omega, by go_num, HG2.out, HZ5.out⟩
                    | ((repeat apply Exists.intro)
                       refine ⟨⟨k + 1, by omega, ?_, HG2.out, HZ5.out⟩, rfl⟩
                       go_num)
end Go.Proofs.YthnojgdckkdcgaaGreatDoor

namespace Go.Proofs.YthnojgdckkdcgaaGreatDoor
open Go.RowKit Go.Sort
/-- what find has captured -/
structure FindEnv9 (w : World) (C : Nat) (Aw Af Ao Ap As : Option Addr) (cw cf co cp cs : Nat) (t : Pt) (Al : Option Addr) (cl i bs bp bf : Nat) : Prop where
  street : StreetAt w C Aw Af Ao Ap As cw cf co cp cs t Al cl
  boxS : BoxAt w bs [.pointer (some ⟨C, 0, none⟩)]
  boxI : BoxAt w bp [.int .i64 i]
  boxF : BoxAt w bf [.func (.func 103) #[] #[.pointer (some ⟨bs, 0, none⟩), .pointer (some ⟨bp, 0, none⟩), .pointer (some ⟨bf, 0, none⟩)]]
theorem FindEnv9.mono {w w' : World} {C : Nat} {Aw Af Ao Ap As : Option Addr} {cw cf co cp cs : Nat} {t : Pt} {Al : Option Addr} {cl i bs bp bf : Nat} (h : FindEnv9 w C Aw Af Ao Ap As cw cf co cp cs t Al cl i bs bp bf) (hb : Below w.heap.size w w') : FindEnv9 w' C Aw Af Ao Ap As cw cf co cp cs t Al cl i bs bp bf :=
  ⟨h.street.mono hb, h.boxS.mono hb, h.boxI.mono hb, h.boxF.mono hb⟩
/-- what find hands back -/
def FindOut9 (w : World) (r : Option (List Tp)) (l : List Tp) (e : Ending) : Prop := (∀ x, r = some x → ∃ A c, e = .returned (.tuple #[.slice A (l ++ x).length c, .bool true]) ∧ LstAt w A c (l ++ x)) ∧ (r = none → ∃ v, e = .returned (.tuple #[v, .bool false]))
def tupNo (v : Value) : Prop := ∃ u, v = .tuple #[u, .bool false]
def tupYes (m : Nat) (v : Value) : Prop := ∃ A c, v = .tuple #[.slice A m c, .bool true]
def yesR (m : Nat) (L : List Tp) (w : World) (v : Value) : Prop := ∀ A c, v = .tuple #[.slice A m c, .bool true] → LstAt w A c L
def lstR (m : Nat) (L : List Tp) (w : World) (v : Value) : Prop := ∀ A c, v = .slice A m c → LstAt w A c L
theorem noG : (Stir.held tupNo (fun _ _ => True)).good := ⟨⟨_, undef, rfl⟩, fun _ _ _ _ h => h⟩
theorem freeG : (Stir.held (fun _ => True) (fun _ _ => True)).good := ⟨⟨undef, trivial⟩, fun _ _ _ _ h => h⟩
theorem yesG {m : Nat} {L : List Tp} : (Stir.held (tupYes m) (yesR m L)).good := ⟨⟨_, none, 0, rfl⟩, fun _ _ _ hb h A c e => (h A c e).mono hb⟩
theorem lstG {m : Nat} {L : List Tp} : (Stir.held (ShapeL m) (lstR m L)).good := ⟨⟨_, none, 0, rfl⟩, fun _ _ _ hb h A c e => (h A c e).mono hb⟩
theorem RowAt_drop9 {w : World} {b o : Nat} {R : List Tp} (h : RowAt w (some ⟨b, o, none⟩) (tstE.cells R)) (k : Nat) : RowAt w (some ⟨b, o + k * 2, none⟩) (tstE.cells (R.drop k)) := by
  rcases h with h | ⟨b', o', e, hlt, hc⟩
  · have : R = [] := by
      cases R with
      | nil => rfl
      | cons x R => simp [Elem.cells, tstE] at h
    subst this
    exact .inl (by simp [Elem.cells])
  · injection e with e
    injection e with e1 e2
    subst e1 e2
    refine .inr ⟨b, o + k * 2, rfl, hlt, fun j v hj => ?_⟩
    have h1 : (tstE.cells R)[k * 2 + j]? = some v := by
      rcases Nat.lt_or_ge k R.length with hk | hk
      · rw [← hj]
        rw [show tstE.cells R = tstE.cells (R.take k) ++ tstE.cells (R.drop k) by unfold Elem.cells; rw [← List.flatMap_append, List.take_append_drop]]
        have hl : (tstE.cells (R.take k)).length = k * 2 := by
          have := Elem.cells_len tstG (R.take k)
          rw [this, List.length_take, Nat.min_eq_left (Nat.le_of_lt hk)]
          rfl
        rw [List.getElem?_append_right (by omega), hl, Nat.add_sub_cancel_left]
      · rw [List.drop_eq_nil_of_le hk] at hj
        simp [Elem.cells] at hj
    have := hc _ _ h1
    rw [Nat.add_assoc]
    exact this
set_option maxHeartbeats 8000000 in
set_option maxRecDepth 100000 in
theorem find9_any {C : Nat} {Aw Af Ao Ap As : Option Addr} {cw cf co cp cs : Nat} {t : Pt} {Al : Option Addr} {cl i bs bp bf : Nat} (ok : t.Ok) (hi : i < t.ns) :
    ∀ (left : Nat) (l : List Tp) (A : Option Addr) (c : Nat) (R : List Tp) (A2 : Option Addr) (c2 : Nat) (w : World), FindEnv9 w C Aw Af Ao Ap As cw cf co cp cs t Al cl i bs bp bf → LstAt w A c l → t.q.TestsOk l → l.length + left ≤ 10000 → RowAt w A2 (tstE.cells R) → R.length ≤ c2 → c2 ≤ 9223372036854775807 → t.q.TestsOk R → R.length ≤ 1000 →
    Calls Tryz.prog 103 #[.slice A l.length c, .slice A2 R.length c2, .int .i64 left, .pointer (some ⟨bs, 0, none⟩), .pointer (some ⟨bp, 0, none⟩), .pointer (some ⟨bf, 0, none⟩)] w fun e w' => FindOut9 w' ((listsL R left).find? (fun x => t.decB i (l ++ x))) l e ∧ Below w.heap.size w w' := by
  intro left
  induction left with
  | zero =>
    intro l A c R A2 c2 w hE hL hl hlen hR hrc hc2 hRO hrl
    have HE := Lib.hid hE
    have HL := Lib.hid hL
    obtain ⟨b, hb⟩ : ∃ b, t.decB i l = b := ⟨_, rfl⟩
    have HT := Lib.hid (fun w' hb' => (hb ▸ decideP_any C Aw Af Ao Ap As cw cf co cp cs t Al cl i A c l w' (HE.out.street.mono hb') ok hi hl (HL.out.row.mono hb') (by omega) : Calls Tryz.prog 102 #[.pointer (some ⟨C, 0, none⟩), .int .i64 i, .slice A l.length c] w' fun e w'' => e = .returned (.bool b) ∧ Below w'.heap.size w' w'') : ∀ w', Below w.heap.size w w' → _)
    have HF := Lib.hid (show (listsL R 0).find? (fun x => t.decB i (l ++ x)) = if b then some [] else none by
      rw [listsL_zero, List.find?_cons, List.append_nil, hb]
      cases b <;> rfl)
    have x0 := hE.boxS.lt
    have y0 := hE.boxS.cell 0 _ rfl
    have x1 := hE.boxI.lt
    have y1 := hE.boxI.cell 0 _ rfl
    obtain ⟨n, hn⟩ : ∃ n, l.length = n := ⟨_, rfl⟩
    obtain ⟨r, hr⟩ : ∃ r, R.length = r := ⟨_, rfl⟩
    rw [hn] at HT ⊢
    rw [hr]
    have HLN := Lib.hid hn
    clear hE hL hb hn hl hlen hR hrc hc2 hRO hrl hr
    go_enter Tryz.func103, Tryz.ntmps103
    go_wp2_with fail
    refine (HT.out _ (Below.refl _ _)).mono ?_
    rintro e w1 ⟨rfl, hb1⟩
    cases b
    · go_wp2_with fail
      go_ret2
      exact ⟨⟨(fun x h => by rw [HF.out] at h; cases h), fun _ => ⟨_, rfl⟩⟩, hb1⟩
    · go_wp2_with fail
      go_ret2
      refine ⟨⟨fun x h => ?_, (fun h => by rw [HF.out] at h; cases h)⟩, hb1⟩
      rw [HF.out] at h
      obtain rfl : [] = x := Option.some.inj h
      rw [List.append_nil]
      exact ⟨A, c, by rw [HLN.out]; rfl, HL.out.mono hb1⟩
  | succ left ih =>
    intro l A c R A2 c2 w hE hL hl hlen hR hrc hc2 hRO hrl
    have IH := Lib.hid ih
    clear ih
    have HE := Lib.hid hE
    have HL := Lib.hid hL
    have HLO := Lib.hid hl
    have HR := Lib.hid hR
    have HRO := Lib.hid hRO
    obtain ⟨P, hP⟩ : ∃ P : List Tp → Bool, (fun x => t.decB i (l ++ x)) = P := ⟨_, rfl⟩
    rw [hP]
    have HPP := Lib.hid hP
    have hcap := hL.cap
    obtain ⟨n, hn⟩ : ∃ n, l.length = n := ⟨_, rfl⟩
    obtain ⟨z, hz⟩ : ∃ z, R.length = z := ⟨_, rfl⟩
    rw [hn] at hlen hcap ⊢
    rw [hz] at hrc hrl ⊢
    have HN := Lib.hid hn
    have HZL := Lib.hid hz
    have g0 : (((left + 1 : Nat) : Int) == 0) = false := by simp; omega
    have e5 : IntKind.i64.wrap (left : Int) = (left : Int) := IntWalk.i64_in _ (by omega)
    clear hE hL hl hP hn hz hR hRO
    go_enter Tryz.func103, Tryz.ntmps103
    go_wp2_with fail
    go_loopw [24] (fun i' wr => ∃ j : Nat, i' = .int .i64 j ∧ j ≤ z ∧ (listsL R (left + 1)).find? P = (listsL (R.drop j) (left + 1)).find? P ∧ Below w.heap.size w wr) (fun i' _ => z - (intOf i').toNat)
    case atStart => exact ⟨0, rfl, Nat.zero_le _, rfl, Below.refl _ _⟩
    case round =>
      obtain ⟨j, rfl, hj, hfe, hbel⟩ := hrel
      have HFE := Lib.hid hfe
      have HBL := Lib.hid hbel
      clear hfe hbel
      by_cases hlt : j < z
      · have hget := tget_some (l := R) (i := j) (by rw [HZL.out]; exact hlt)
        obtain ⟨x, hx⟩ : ∃ x, tget R j = x := ⟨_, rfl⟩
        rw [hx] at hget
        have HGET := Lib.hid hget
        have HXO := Lib.hid (HRO.out x (List.mem_of_getElem? hget))
        obtain ⟨b, o, rfl, hbs, c0, c1⟩ := SliceE.tst (HR.out.mono HBL.out) hget
        obtain ⟨p, q⟩ := x
        have HBB := Lib.hid (show Below wr.heap.size wr (wr.alloc (.cells #[.int .i64 p, .int .i64 q] 93)) from bAlloc (Below.refl _ _) _)
        have HE3 := Lib.hid ((HE.out.mono HBL.out).mono HBB.out)
        have x3 := (HE.out.mono HBL.out).boxF.lt
        have y3 := (HE.out.mono HBL.out).boxF.cell 0 _ rfl
        have i1 : (j : Int) < (z : Int) := by omega
        have i0 : (0 : Int) ≤ (j : Int) := by omega
        have n1 : (n : Int) ≤ (c : Int) := by omega
        have n0 : (0 : Int) ≤ (n : Int) := by omega
        have e6 : IntKind.i64.wrap ((j : Int) + 1) = ((j + 1 : Nat) : Int) := by
          rw [show (j : Int) + 1 = ((j + 1 : Nat) : Int) by omega]
          exact IntWalk.i64_in _ (by omega)
        have j1 : (0 : Int) ≤ ((j + 1 : Nat) : Int) := by omega
        have j2 : ((j + 1 : Nat) : Int) ≤ (z : Int) := by omega
        have j3 : (z : Int) ≤ (c2 : Int) := by omega
        have j4 : (0 : Int) ≤ (j : Int) + 1 := by omega
        have j5 : (j : Int) + 1 ≤ (z : Int) := by omega
        obtain ⟨A3, hA3⟩ : ∃ A3 : Option Addr, A3 = (if j + 1 < c2 then some ⟨b, o + (j + 1) * 2, none⟩ else some ⟨b, o, none⟩) := ⟨_, rfl⟩
        obtain ⟨r3, hr3⟩ : ∃ r3, z - (j + 1) = r3 := ⟨_, rfl⟩
        obtain ⟨c3, hc3⟩ : ∃ c3, c2 - (j + 1) = c3 := ⟨_, rfl⟩
        have HA3 := Lib.hid hA3
        have HR3 := Lib.hid hr3
        have HC3 := Lib.hid hc3
        have HRD := Lib.hid (show (R.drop (j + 1)).length = r3 by rw [List.length_drop, HZL.out, hr3])
        have HRR := Lib.hid (show RowAt w A3 (tstE.cells (R.drop (j + 1))) by
          rcases Nat.eq_zero_or_pos r3 with h0 | h0
          · exact .inl (by rw [List.eq_nil_of_length_eq_zero (HRD.out.trans h0)]; rfl)
          · rw [hA3, if_pos (by omega)]
            exact RowAt_drop9 HR.out (j + 1))
        clear hx hget hA3 hr3 hc3
        have HSTEP := Lib.hid (find_step (P := P) (k := left) HGET.out)
        have HFUN := Lib.hid (show (fun y => P ((p, q) :: y)) = (fun x => t.decB i (l ++ [(p, q)] ++ x)) by
          rw [← HPP.out]
          funext y
          simp)
        rw [HFUN.out] at HSTEP
        obtain ⟨r, hr⟩ : ∃ r, (listsL (R.drop (j + 1)) left).find? (fun x => t.decB i (l ++ [(p, q)] ++ x)) = r := ⟨_, rfl⟩
        rw [hr] at HSTEP
        have HIH := Lib.hid (fun (g c4 : Nat) (w' : World) (hb : Below (wr.alloc (.cells #[.int .i64 p, .int .i64 q] 93)).heap.size (wr.alloc (.cells #[.int .i64 p, .int .i64 q] 93)) w') (hown : OwnE tstE w' 0 (.slice (some ⟨g, 0, none⟩) (n + 1) c4) (l ++ [(p, q)])) => (by
          obtain ⟨g', c', e1, hlst⟩ := hown.lst (by simp)
          simp only [Value.slice.injEq, Option.some.injEq, Addr.mk.injEq, and_true] at e1
          obtain ⟨rfl, e3, rfl⟩ := e1
          have hbw : Below wr.heap.size wr w' := bTrans HBB.out hb
          have h := IH.out (l ++ [(p, q)]) _ _ (R.drop (j + 1)) A3 c3 w' (HE3.out.mono hb) hlst (fun y hy => by
            rcases List.mem_append.1 hy with hy | hy
            · exact HLO.out y hy
            · rw [List.mem_singleton.1 hy]; exact HXO.out) (by rw [List.length_append, HN.out]; simp; omega) ((HRR.out.mono HBL.out).mono hbw) (by rw [HRD.out]; have := HR3.out; have := HC3.out; omega) (by have := HC3.out; omega) (fun y hy => HRO.out y (List.mem_of_mem_drop hy)) (by rw [HRD.out]; have := HR3.out; omega)
          rw [show (l ++ [(p, q)]).length = n + 1 by rw [List.length_append, HN.out]; rfl, HRD.out, hr] at h
          exact h : Calls Tryz.prog 103 #[.slice (some ⟨g, 0, none⟩) (n + 1) c4, .slice A3 r3 c3, .int .i64 (left : Int), .pointer (some ⟨bs, 0, none⟩), .pointer (some ⟨bp, 0, none⟩), .pointer (some ⟨bf, 0, none⟩)] w' fun e w'' => FindOut9 w'' r (l ++ [(p, q)]) e ∧ Below w'.heap.size w' w''))
        clear hr
        cases r with
        | none =>
          have HF2 := Lib.hid (HFE.out.trans HSTEP.out)
          go_wp2_with fail
          refine wp_region_stir 22 [.const (.func (.func 103) #[] #[.pointer (some ⟨bs, 0, none⟩), .pointer (some ⟨bp, 0, none⟩), .pointer (some ⟨bf, 0, none⟩)]), .const (.slice A n c), .const (.slice A n c), .const (.int .i64 n), .const (.slice A n c), .const (.int .i64 n), .const (.slice A n n), .const (.agg #[.int .i64 p, .int .i64 q]),
            .held oneS (oneR (p, q)), .held (ShapeOf (n + 1)) (fun w v => OwnE tstE w 0 v (l ++ [(p, q)])), .const (.slice (some ⟨b, o, none⟩) z c2), .const (.int .i64 j), .const (.int .i64 ((j + 1 : Nat) : Int)), .const (.slice A3 r3 c3), .const (.int .i64 ((left + 1 : Nat) : Int)), .const (.int .i64 left), .held tupNo (fun _ _ => True), .held tupNo (fun _ _ => True), .held (fun _ => True) (fun _ _ => True), .const (.bool false), .held (fun _ => True) (fun _ _ => True), .const (.bool false)] (by kernel_rfl) (by kernel_rfl) rfl ⟨trivial, trivial, trivial, trivial, trivial, trivial, trivial, trivial, oneG _, ownG _ _ _, trivial, trivial, trivial, trivial, trivial, trivial, noG, noG, freeG, trivial, freeG, trivial, trivial⟩ (crossAll_no _ _ _ _ trivial) ?_
          iterate 8 refine wpStir_const (by go_simp) ?_
          refine wpStir_held rfl (fun w' hb hd => ?_) (fun v hv => ?_)
          · go_simp
            exact ⟨bAlloc (Below.refl _ _) _, ⟨_, rfl⟩, oneR_new (p, q) w'⟩
          obtain ⟨b1, rfl⟩ := hv
          simp only [Act.put, List.setIfInBounds_toArray, List.set_cons_succ, List.set_cons_zero]
          refine wpStir_held rfl (fun w' hb hd => ?_) (fun v hv => ?_)
          · rw [show ShapeOf (n + 1) = ShapeOf (l.length + 1) by rw [HN.out]]
            refine stir_full tstG w' (Operand.tmp 36) (Operand.tmp 38) rfl A l (p, q) ?_ HL.out.none (((HL.out.row.mono HBL.out).mono HBB.out).mono hb) b1 rfl (hd.1 (by kernel_rfl) b1 rfl).2 (by rw [HN.out]; omega) 0 (Nat.zero_le _)
            rw [HN.out]
            rfl
          obtain ⟨g, c4, rfl⟩ := hv
          iterate 3 refine wpStir_const (by go_simp) ?_
          refine wpStir_const (by
            have h1 := HA3.out
            have h2 := HR3.out
            have h3 := HC3.out
            rcases Nat.lt_or_ge (j + 1) c2 with h | h
            · rw [if_pos h] at h1
              have h5 : ¬ c2 = j + 1 := by omega
              have h6 : ¬ j + 1 = c2 := by omega
              subst h1 h2 h3
              clear HA3 HR3 HC3 HRD HRR HIH
              go_simp
            · rw [if_neg (by omega)] at h1
              have h4 : z = j + 1 := by omega
              have h5 : c2 = j + 1 := by omega
              subst h1 h2 h3
              clear HA3 HR3 HC3 HRD HRR HIH
              subst h4 h5
              go_simp) ?_
          iterate 2 refine wpStir_const (by go_simp) ?_
          simp only [Act.put, List.setIfInBounds_toArray, List.set_cons_succ, List.set_cons_zero]
          refine wpStir_held rfl (fun w' hb hd => ?_) (fun v hv => ?_)
          · have hown : OwnE tstE w' 0 (.slice (some ⟨g, 0, none⟩) (n + 1) c4) (l ++ [(p, q)]) := hd.1 (by kernel_rfl)
            clear hd
            have hcall := Lib.hid (HIH.out g c4 w' hb hown)
            go_simp
            refine hcall.out.mono ?_
            rintro e w'' ⟨⟨ho1, ho2⟩, hb'⟩
            obtain ⟨v7, rfl⟩ := ho2 rfl
            exact ⟨_, rfl, hb', _, rfl⟩
          obtain ⟨v7, rfl⟩ := hv
          refine wpStir_held rfl (fun w' hb hd => ?_) (fun v hv => ?_)
          · clear hd
            go_simp
            exact ⟨_, rfl⟩
          obtain ⟨v8, rfl⟩ := hv
          refine wpStir_held rfl (fun w' hb hd => ?_) (fun v9 hv => ?_)
          · clear hd
            go_simp
          refine wpStir_const (by go_simp) ?_
          refine wpStir_held rfl (fun w' hb hd => ?_) (fun v10 hv => ?_)
          · clear hd
            go_simp
          refine wpStir_const (by go_simp) ?_
          refine wpStir_end (fun w5 hb5 hd => ?_)
          clear hd
          have HB6 := Lib.hid (bTrans HBL.out (bTrans HBB.out hb5))
          clear hb5
          simp only [List.drop_succ_cons, List.drop_zero]
          simp only [Act.put, List.setIfInBounds_toArray, List.set_cons_succ, List.set_cons_zero]
          clear c0 c1 x3 y3 hbs
          go_wp2_with fail
          go_roundw
          case rel =>
            first
            | exact ⟨j + 1, by go_num, by omega, HF2.out, HB6.out⟩
            | ((repeat apply Exists.intro)
               refine ⟨⟨j + 1, ?_, by omega, HF2.out, HB6.out⟩, rfl⟩
               go_num)
          case measure => simp [intOf]; omega
        | some y =>
          have HF2 := Lib.hid (HFE.out.trans HSTEP.out)
          obtain ⟨m2, hm2⟩ : ∃ m2, (l ++ [(p, q)] ++ y).length = m2 := ⟨_, rfl⟩
          have HLE := Lib.hid (show m2 = (l ++ (p, q) :: y).length by rw [← hm2]; simp)
          have HM2 := Lib.hid hm2
          clear hm2
          go_wp2_with fail
          refine wp_region_stir 22 [.const (.func (.func 103) #[] #[.pointer (some ⟨bs, 0, none⟩), .pointer (some ⟨bp, 0, none⟩), .pointer (some ⟨bf, 0, none⟩)]), .const (.slice A n c), .const (.slice A n c), .const (.int .i64 n), .const (.slice A n c), .const (.int .i64 n), .const (.slice A n n), .const (.agg #[.int .i64 p, .int .i64 q]),
            .held oneS (oneR (p, q)), .held (ShapeOf (n + 1)) (fun w v => OwnE tstE w 0 v (l ++ [(p, q)])), .const (.slice (some ⟨b, o, none⟩) z c2), .const (.int .i64 j), .const (.int .i64 ((j + 1 : Nat) : Int)), .const (.slice A3 r3 c3), .const (.int .i64 ((left + 1 : Nat) : Int)), .const (.int .i64 left), .held (tupYes m2) (yesR m2 (l ++ (p, q) :: y)), .held (tupYes m2) (yesR m2 (l ++ (p, q) :: y)), .held (ShapeL m2) (lstR m2 (l ++ (p, q) :: y)), .const (.bool true), .held (ShapeL m2) (lstR m2 (l ++ (p, q) :: y)), .const (.bool true)] (by kernel_rfl) (by kernel_rfl) rfl ⟨trivial, trivial, trivial, trivial, trivial, trivial, trivial, trivial, oneG _, ownG _ _ _, trivial, trivial, trivial, trivial, trivial, trivial, yesG, yesG, lstG, trivial, lstG, trivial, trivial⟩ (crossAll_no _ _ _ _ trivial) ?_
          iterate 8 refine wpStir_const (by go_simp) ?_
          refine wpStir_held rfl (fun w' hb hd => ?_) (fun v hv => ?_)
          · go_simp
            exact ⟨bAlloc (Below.refl _ _) _, ⟨_, rfl⟩, oneR_new (p, q) w'⟩
          obtain ⟨b1, rfl⟩ := hv
          simp only [Act.put, List.setIfInBounds_toArray, List.set_cons_succ, List.set_cons_zero]
          refine wpStir_held rfl (fun w' hb hd => ?_) (fun v hv => ?_)
          · rw [show ShapeOf (n + 1) = ShapeOf (l.length + 1) by rw [HN.out]]
            refine stir_full tstG w' (Operand.tmp 36) (Operand.tmp 38) rfl A l (p, q) ?_ HL.out.none (((HL.out.row.mono HBL.out).mono HBB.out).mono hb) b1 rfl (hd.1 (by kernel_rfl) b1 rfl).2 (by rw [HN.out]; omega) 0 (Nat.zero_le _)
            rw [HN.out]
            rfl
          obtain ⟨g, c4, rfl⟩ := hv
          iterate 3 refine wpStir_const (by go_simp) ?_
          refine wpStir_const (by
            have h1 := HA3.out
            have h2 := HR3.out
            have h3 := HC3.out
            rcases Nat.lt_or_ge (j + 1) c2 with h | h
            · rw [if_pos h] at h1
              have h5 : ¬ c2 = j + 1 := by omega
              have h6 : ¬ j + 1 = c2 := by omega
              subst h1 h2 h3
              clear HA3 HR3 HC3 HRD HRR HIH
              go_simp
            · rw [if_neg (by omega)] at h1
              have h4 : z = j + 1 := by omega
              have h5 : c2 = j + 1 := by omega
              subst h1 h2 h3
              clear HA3 HR3 HC3 HRD HRR HIH
              subst h4 h5
              go_simp) ?_
          iterate 2 refine wpStir_const (by go_simp) ?_
          simp only [Act.put, List.setIfInBounds_toArray, List.set_cons_succ, List.set_cons_zero]
          refine wpStir_held rfl (fun w' hb hd => ?_) (fun v hv => ?_)
          · have hown : OwnE tstE w' 0 (.slice (some ⟨g, 0, none⟩) (n + 1) c4) (l ++ [(p, q)]) := hd.1 (by kernel_rfl)
            clear hd
            have hcall := Lib.hid (HIH.out g c4 w' hb hown)
            go_simp
            refine hcall.out.mono ?_
            rintro e w'' ⟨⟨ho1, ho2⟩, hb'⟩
            obtain ⟨A7, c7, rfl, hl2⟩ := ho1 y rfl
            rw [HM2.out]
            refine ⟨_, rfl, hb', ⟨_, _, rfl⟩, fun A c e => ?_⟩
            obtain ⟨rfl, rfl⟩ : A7 = A ∧ c7 = c := by simpa using e
            rw [List.append_assoc] at hl2
            exact hl2
          obtain ⟨A5, c5, rfl⟩ := hv
          refine wpStir_held rfl (fun w' hb hd => ?_) (fun v hv => ?_)
          · have hq : yesR m2 (l ++ (p, q) :: y) w' _ := hd.1 (by kernel_rfl)
            clear hd
            go_simp
            first | exact ⟨⟨_, _, rfl⟩, hq⟩ | exact ⟨_, _, rfl⟩
          obtain ⟨A6, c6, rfl⟩ := hv
          refine wpStir_held rfl (fun w' hb hd => ?_) (fun v hv => ?_)
          · have hq := (show yesR m2 (l ++ (p, q) :: y) w' (.tuple #[.slice A6 m2 c6, .bool true]) from hd.1 (by kernel_rfl)) A6 c6 rfl
            clear hd
            go_simp
            refine ⟨⟨_, _, rfl⟩, fun A c e => ?_⟩
            obtain ⟨rfl, rfl⟩ : A6 = A ∧ c6 = c := by simpa using e
            exact hq
          obtain ⟨A8, c8, rfl⟩ := hv
          refine wpStir_const (by go_simp) ?_
          refine wpStir_held rfl (fun w' hb hd => ?_) (fun v hv => ?_)
          · have hq := (show lstR m2 (l ++ (p, q) :: y) w' (.slice A8 m2 c8) from hd.1 (by kernel_rfl)) A8 c8 rfl
            clear hd
            go_simp
            refine ⟨⟨_, _, rfl⟩, fun A c e => ?_⟩
            obtain ⟨rfl, rfl⟩ : A8 = A ∧ c8 = c := by simpa using e
            exact hq
          obtain ⟨A7, c7, rfl⟩ := hv
          refine wpStir_const (by go_simp) ?_
          refine wpStir_end (fun w5 hb5 hd => ?_)
          have HB6 := Lib.hid (bTrans HBL.out (bTrans HBB.out hb5))
          clear hb5
          simp only [List.drop_succ_cons, List.drop_zero]
          simp only [Act.put, List.setIfInBounds_toArray, List.set_cons_succ, List.set_cons_zero]
          have HL2 := Lib.hid (show LstAt w5 A7 c7 (l ++ (p, q) :: y) from hd.1 A7 c7 rfl)
          clear hd
          clear c0 c1 x3 y3 hbs
          go_wp2_with fail
          go_ret2
          refine ⟨⟨fun x hx => ?_, (fun h => by rw [HF2.out] at h; cases h)⟩, HB6.out⟩
          rw [HF2.out] at hx
          obtain rfl : (p, q) :: y = x := Option.some.inj hx
          exact ⟨A7, c7, by rw [← HLE.out]; rfl, HL2.out⟩
      · obtain rfl : j = z := by omega
        have HFN := Lib.hid (HFE.out.trans (find_end (by rw [HZL.out]; omega)))
        go_wp2_with fail
        go_ret2
        exact ⟨⟨(fun x h => by rw [HFN.out] at h; cases h), fun _ => ⟨_, rfl⟩⟩, HBL.out⟩
end Go.Proofs.YthnojgdckkdcgaaGreatDoor

namespace Go.Proofs.YthnojgdckkdcgaaGreatDoor
open Go.RowKit Go.Sort
section
variable {P : Program}
/-- a store (op n) waits for all but perhaps op i0; what comes behind waits for all -/
def lateB2 (md : Region.Mode) (ops : Array Oper) (n i0 : Nat) : Bool :=
  orderedB md ops && decide (n < ops.size) && (List.range ops.size).all fun i => decide (i < n) || (List.range i).all fun j => reach md ops 6 i j || (i == n && j == i0)
/-- what is owed where the store comes: it is carried out, and the rest goes on -/
def LateFin2 (P : Program) (ops : Array Oper) (Q : Exit → Act → World → Prop) (on : Oper) (rest : List Oper) (a : Act) (w : World) : Prop := ∃ w'', (execOp a.eval on).run P w = .ok .skip w'' ∧ wpList P ops Q rest a w''
theorem wp_region_late {rid : Nat} {Q : Exit → Act → World → Prop} {a : Act} {w : World} {l : List Oper} (n i0 : Nat) (hs : List Stir) {on : Oper} (hm : P.follows .mixedOrders = true) (hB : lateB2 .any l.toArray n i0 = true) (hn : hs.length = n) (hg : goodAllS hs) (hx : crossAll .any l.toArray w.heap.size hs)
    (hon : l[n]? = some on) (hond : on.dst = none) (hong : on.guard = none) (hi0 : i0 < n → ∃ c0 o0 x j, hs[i0]? = some (.const c0) ∧ l[i0]? = some o0 ∧ o0.op = .extract x j ∧ o0.guard = none)
    (h : wpStir P .any l.toArray w (LateFin2 P l.toArray Q on (l.drop (n + 1))) 0 l hs a []) : (Code.region rid l.toArray true).wp P Q a w := by
  unfold lateB2 at hB
  simp only [Bool.and_eq_true, decide_eq_true_eq, List.all_eq_true, List.mem_range, Bool.or_eq_true, beq_iff_eq] at hB
  obtain ⟨⟨hord, hnl⟩, htail⟩ := hB
  have H := ordered_of hord
  have hsz : l.toArray.size = l.length := by simp
  have honA : l.toArray[n]? = some on := by simpa using hon
  have key : ∀ V : Nat → Value, (∀ (k : Nat) (h : Stir), hs[k]? = some h → h.sh (V k)) → _ := fun V hV =>
    wpStir_at (P := P) (md := .any) (ops := l.toArray) (W := w) (Q := LateFin2 P l.toArray Q on (l.drop (n + 1))) (a0 := a) hV hs 0 l (fun j => by simp) (fun j => by simp) (by omega) h
  have hwit : ∃ V : Nat → Value, ∀ (k : Nat) (h : Stir), hs[k]? = some h → h.sh (V k) := by
    have hx : ∀ k : Nat, ∃ v : Value, ∀ h : Stir, hs[k]? = some h → h.sh v := fun k => by
      cases e : hs[k]? with
      | none => exact ⟨undef, fun h hh => by cases hh⟩
      | some h =>
        obtain ⟨v, hv⟩ := Stir.some (goodAllS_at hg e)
        exact ⟨v, fun h' hh => by injection hh with hh; subst hh; exact hv⟩
    exact ⟨fun k => (hx k).choose, fun k => (hx k).choose_spec⟩
  have final : ∀ (V : Nat → Value) (listed : Array Bool) (w' : World), (∀ (k : Nat) (h : Stir), hs[k]? = some h → h.sh (V k)) → Below w.heap.size w w' → (∀ j, j < n → listed.getD j false = true) → (∀ j, n ≤ j → listed.getD j false = false) → (∀ (j : Nat) (h : Stir), hs[j]? = some h → h.r w' (V j)) →
      LateFin2 P l.toArray Q on (l.drop (n + 1)) (frameOf l.toArray V (fun k => listed.getD k false) a l.toArray.size) w' := by
    intro V listed w' hV hb hall hno hr
    obtain ⟨p, rfl⟩ := regrown_of_below hb
    have := (key V hV).2 p (allS_all _ fun j h hj hjh => hr j h hjh)
    rw [hn] at this
    have e1 : frameOf l.toArray V (fun k => listed.getD k false) a n = frameOf l.toArray V (fun _ => true) a n := frameOf_congr n fun j hj => ⟨hall j hj, fun _ => rfl⟩
    have e2 : ∀ m, n ≤ m → frameOf l.toArray V (fun k => listed.getD k false) a m = frameOf l.toArray V (fun k => listed.getD k false) a n := by
      intro m
      induction m with
      | zero => intro hm'; obtain rfl : n = 0 := by omega
                rfl
      | succ m ih =>
        intro hm'
        rcases Nat.eq_or_lt_of_le hm' with e | e
        · rw [e]
        · rw [frameOf, ih (by omega), if_neg]; rw [hno m (by omega)]; exact Bool.false_ne_true
    rw [e2 _ (Nat.le_of_lt hnl), e1]
    exact this
  have storeOp : ∀ (a1 : Act) (w1 w2 : World) (K : Act → World → Prop), (execOp a1.eval on).run P w1 = .ok .skip w2 → K a1 w2 → wpOp P l.toArray Q n K a1 w1 := fun a1 w1 w2 K hrun hK => by
    unfold Go.wpOp
    simp only [honA]
    have hw : Region.wanted on (yielded l.toArray a1.tmps) = true := by unfold Region.wanted; rw [hong]
    rw [if_pos hw]
    refine .inl ?_
    unfold Oper.wp
    rw [hrun]
    simp only [Oper.upon]
    rw [hond]
    exact hK
  refine wp_region_any hm ?_
  refine wpAny_inv (fun listed a' w' => ((∀ j, n ≤ j → listed.getD j false = false) ∧ ∃ V : Nat → Value, (∀ (k : Nat) (h : Stir), hs[k]? = some h → h.sh (V k)) ∧ a' = frameOf l.toArray V (fun k => listed.getD k false) a l.toArray.size ∧ Below w.heap.size w w' ∧ ∀ (j : Nat) (h : Stir), hs[j]? = some h → listed.getD j false = true → h.r w' (V j)) ∨
      (i0 < n ∧ listed.getD i0 false = false ∧ (∀ j, j ≤ n → j ≠ i0 → listed.getD j false = true) ∧ (∀ j, n + 1 ≤ j → listed.getD j false = false) ∧ ∃ A c0 o0 a0, l.toArray[i0]? = some o0 ∧ o0.guard = none ∧ a'.put o0.dst c0 = A ∧ (∀ w, (execOp a0 o0).run P w = .ok (.value c0) w) ∧ (execOp a'.eval o0) = execOp a0 o0 ∧ wpList P l.toArray Q (l.drop (n + 1)) A w') ∨
      ∃ m, n + 1 ≤ m ∧ (∀ j, j < m → listed.getD j false = true) ∧ (∀ j, m ≤ j → listed.getD j false = false) ∧ wpList P l.toArray Q (l.drop m) a' w') ?_ ?_ _ _ _ _ (left_le _ _) Shut.none (.inl ⟨fun j _ => ?_, ?_⟩)
  · intro listed a' w' i hsh hI hr
    obtain ⟨hun, oi, hoi, _⟩ := mem_ready.1 hr
    have hi : i < l.toArray.size := (Array.getElem?_eq_some_iff.1 hoi).1
    have hil : i < listed.size := by rw [hsh.size]; exact hi
    have hunf := listed_both hun
    have hset : (listed.setIfInBounds i true).getD i false = true := set_same hil false
    rcases hI with ⟨hno, V, hV, rfl, hb, hrr⟩ | ⟨h0n, h0u, hall, hno, A, c0, o0, a0, ho0, hg0, hA, hex, hea, hw⟩ | ⟨m, hnm, hall, hno, hw⟩
    · rcases Nat.lt_trichotomy i n with hin | hin | hin
      · -- an operation of the first part
        have hx' : ∃ h, hs[i]? = some h := ⟨hs[i]'(by omega), by simp⟩
        obtain ⟨hh, hhi⟩ := hx'
        obtain ⟨o', ho', hask⟩ := (key V hV).1 i hh (Nat.zero_le _) hhi
        obtain rfl : oi = o' := Option.some.inj (hoi.symm.trans ho')
        have hsee := H.sees (V := V) (V' := V) (M := fun _ => true) (a := a) hsh hoi hr (fun k _ hk => by cases hk) (fun _ _ => rfl)
        have hput : ∀ v, (frameOf l.toArray V (fun k => listed.getD k false) a l.toArray.size).put oi.dst v = frameOf l.toArray (fun k => if k = i then v else V k) (fun k => (listed.setIfInBounds i true).getD k false) a l.toArray.size := fun v => by
          have e1 : dstOf l.toArray i = oi.dst := by simp [dstOf, hoi]
          rw [H.frame_put hsh hi hun, e1, if_pos rfl]
          congr 1
          exact frameOf_congr _ fun j _ => ⟨rfl, fun hj => by rw [if_neg (fun e => by subst e; rw [hunf] at hj; cases hj)]⟩
        have hnext : ∀ v w'', Below w.heap.size w' w'' → (∀ (j : Nat) (h : Stir), hs[j]? = some h → j ≠ i → listed.getD j false = true → h.r w' (V j) → h.r w'' (V j)) → hh.r w'' v → ((∀ j, n ≤ j → (listed.setIfInBounds i true).getD j false = false) ∧ ∃ V' : Nat → Value, (∀ (k : Nat) (h : Stir), hs[k]? = some h → h.sh (V' k)) ∧ (frameOf l.toArray V (fun k => listed.getD k false) a l.toArray.size).put oi.dst v = frameOf l.toArray V' (fun k => (listed.setIfInBounds i true).getD k false) a l.toArray.size ∧ Below w.heap.size w w'' ∧ ∀ (j : Nat) (h : Stir), hs[j]? = some h → (listed.setIfInBounds i true).getD j false = true → h.r w'' (V' j)) := by
          intro v w'' hb' hkeep hrv
          refine ⟨fun j hj => by rw [getD_set_ne false (by omega)]; exact hno j hj, fun k => if k = i then v else V k, fun k h hk => ?_, hput v, hb.trans hb', fun j h hjh hj => ?_⟩
          · by_cases e : k = i
            · subst e
              obtain rfl : hh = h := Option.some.inj (hhi.symm.trans hk)
              simp only [if_true]
              exact Stir.r_sh hrv
            · simp only [if_neg e]; exact hV k h hk
          · by_cases e : j = i
            · subst e
              obtain rfl : hh = h := Option.some.inj (hhi.symm.trans hjh)
              simp only [if_true]
              exact hrv
            · simp only [if_neg e]
              rw [getD_set_ne false (Ne.symm e)] at hj
              exact hkeep j h hjh e hj (hrr j h hjh hj)
        unfold Go.wpOp
        simp only [hoi]
        rw [wanted_of_slots hsee]
        unfold Oper.stirAsk at hask
        by_cases hwt : Region.wanted oi (yielded l.toArray (frameOf l.toArray V (fun _ => true) a i).tmps) = true
        · rw [if_pos hwt] at hask
          rw [if_pos hwt]
          obtain ⟨p, rfl⟩ := regrown_of_below hb
          have h1 := hask p (depsS_all _ fun j h hj hjh hw => hrr j h hjh (waits_listed hr hw))
          have hst : ∀ v w'', hh.K (grow (redrawn w p.d) p.os) w'' → hh.r w'' v → _ := fun v w'' hk hrv => hnext v w'' (by
            cases hh with
            | const c => exact (show Below _ _ _ from hk).mono hb.size
            | held s r => exact (show Below _ _ _ from hk).mono hb.size
            | stir s r K => exact (hx i s r K hhi).1 _ _ hb.size hk) (fun j h hjh hji hj hr1 => by
            cases hh with
            | const c => exact Stir.r_mono (goodAllS_at hg hjh) hk hr1
            | held s r => exact Stir.r_mono (goodAllS_at hg hjh) hk hr1
            | stir s r K =>
              rcases (hx i s r K hhi).2 j h hjh hji with h1 | h1
              · have h2 := reach_listed2 hsh 6 j i hj h1
                rw [hunf] at h2
                cases h2
              · exact h1 _ _ _ hk hr1) hrv
          refine .inl (Oper.wp_of_stir (S := hh.K) (r := hh.r) ?_ fun v w'' hb' hrv => .inl (hst v w'' hb' hrv))
          unfold Oper.stirAt at h1 ⊢
          rwa [exec_of_slots (ops := l.toArray) (fun cs b => Region.noSelect_spec H.sel i oi cs b hoi) hsee]
        · rw [if_neg hwt] at hask
          rw [if_neg hwt]
          exact .inl (hnext undef w' (Below.refl _ _) (fun j h _ _ _ h1 => h1) (hask _))
      · -- the store
        subst hin
        have hall : ∀ j, j < i → j ≠ i0 → listed.getD j false = true := fun j hj hne => reach_listed hsh 6 i j (fun k hk => waits_listed hr hk) ((((htail i hi).resolve_left (by omega)) j hj).resolve_right (fun e => hne e.2))
        by_cases h0 : i0 < i ∧ listed.getD i0 false = false
        · obtain ⟨h0n, h0u⟩ := h0
          obtain ⟨c0, o0, x, j0, hc0, ho0, hop0, hg0⟩ := hi0 h0n
          have ho0A : l.toArray[i0]? = some o0 := by simpa using ho0
          have hi0s : i0 < l.toArray.size := (Array.getElem?_eq_some_iff.1 ho0A).1
          have hi0l : i0 < listed.size := by rw [hsh.size]; exact hi0s
          have hun0 : listed.getD i0 true = false := by simp [hi0l] at h0u ⊢; exact h0u
          have hV0 : V i0 = c0 := hV i0 _ hc0
          have hput0 : frameOf l.toArray V (fun k => (listed.setIfInBounds i0 true).getD k false) a l.toArray.size = (frameOf l.toArray V (fun k => listed.getD k false) a l.toArray.size).put o0.dst c0 := by
            have e1 : dstOf l.toArray i0 = o0.dst := by simp [dstOf, ho0A]
            rw [H.frame_put hsh hi0s hun0, e1, hV0]
          obtain ⟨w'', hrun, hlist⟩ := final V (listed.setIfInBounds i0 true) w' hV hb (fun j hj => by
            by_cases e : j = i0
            · subst e; exact set_same hi0l false
            · rw [getD_set_ne false (Ne.symm e)]; exact hall j hj e) (fun j hj => by rw [getD_set_ne false (by omega)]; exact hno j hj) (fun j h hjh => by
            by_cases e : j = i0
            · subst e
              obtain rfl : Stir.const c0 = h := Option.some.inj (hc0.symm.trans hjh)
              exact hV0
            · have hjn : j < i := by rw [← hn]; exact (List.getElem?_eq_some_iff.1 hjh).1
              exact hrr j h hjh (hall j hjn e))
          rw [hput0] at hrun hlist
          have hnw : waits .any l.toArray i i0 = false := by
            cases hw : waits .any l.toArray i i0 with
            | false => rfl
            | true => rw [waits_listed hr hw] at h0u; cases h0u
          have hap := (H.apart i0 i h0n hi).resolve_left (by rw [hnw]; decide)
          have hrun2 : (execOp (frameOf l.toArray V (fun k => listed.getD k false) a l.toArray.size).eval on).run P w' = .ok .skip w'' := by
            rw [← hrun]
            rw [exec_of_slots (ops := l.toArray) (o := on) (b := (frameOf l.toArray V (fun k => listed.getD k false) a l.toArray.size).put o0.dst c0) (fun cs b => Region.noSelect_spec H.sel i on cs b honA) fun t ht => ?_]
            refine (put_ne (fun e => ?_) _).symm
            have hd0 : dstOf l.toArray i0 = some t := by simp [dstOf, ho0A, e]
            have := (hap.1 t hd0).1
            rw [looks_of honA ht] at this
            cases this
          -- what the late operation yields
          obtain ⟨o', ho', hask⟩ := (key V hV).1 i0 (.const c0) (Nat.zero_le _) hc0
          obtain rfl : o0 = o' := Option.some.inj (ho0A.symm.trans ho')
          unfold Oper.stirAsk at hask
          have hw0 : Region.wanted o0 (yielded l.toArray (frameOf l.toArray V (fun _ => true) a i0).tmps) = true := by unfold Region.wanted; rw [hg0]
          rw [if_pos hw0] at hask
          have hwt0 : ∀ j, j < i0 → waits .any l.toArray i0 j = true → listed.getD j false = true := fun j hj _ => hall j (by omega) (by omega)
          have hr0 : i0 ∈ Region.ready .any l.toArray listed := by
            refine mem_ready.2 ⟨hun0, o0, ho0A, ?_⟩
            intro e he hb0
            have hlt := H.back i0 o0 e ho0A he hb0
            exact hall e.on (by omega) (by omega)
          have hsee0 := H.sees (V := V) (V' := V) (M := fun _ => true) (a := a) hsh ho0A hr0 (fun k _ hk => by cases hk) (fun _ _ => rfl)
          obtain ⟨p, hp⟩ := regrown_of_below hb
          have hst0 := hask p (depsS_all _ fun j h hj hjh hw => by rw [← hp]; exact hrr j h hjh (waits_listed hr0 hw))
          have hexa : ∀ w, (execOp (frameOf l.toArray V (fun _ => true) a i0).eval o0).run P w = .ok (.value c0) w := by
            unfold Oper.stirAt at hst0
            simp only [execOp, hop0, Instr.extract] at hst0 ⊢
            intro w9
            cases hev : (frameOf l.toArray V (fun _ => true) a i0).eval x <;> simp only [hev, stuck, Sem.run_bind, Sem.run_pure, Result.andThen] at hst0 ⊢ <;> first | (simp [Oper.stirUpon, Sem.run] at hst0; done) | skip
            rename_i vs
            cases hvs : vs[j0]? with
            | none => simp [hvs, Oper.stirUpon, stuck, Sem.run] at hst0
            | some v =>
              simp only [hvs, Sem.run_pure, Oper.stirUpon, Stir.r] at hst0 ⊢
              rw [hst0.2]
          refine storeOp _ _ w'' _ hrun2 (.inr (.inl ⟨h0n, by rw [getD_set_ne false (by omega)]; exact h0u, fun j hj hne => ?_, fun j hj => by rw [getD_set_ne false (by omega)]; exact hno j (by omega), _, c0, o0, (frameOf l.toArray V (fun _ => true) a i0).eval, ho0A, hg0, rfl, hexa, ?_, hlist⟩))
          · by_cases e : j = i
            · subst e; exact hset
            · rw [getD_set_ne false (Ne.symm e)]; exact hall j (by omega) hne
          · exact exec_of_slots (ops := l.toArray) (fun cs b => Region.noSelect_spec H.sel i0 o0 cs b ho0A) hsee0
        · have hall' : ∀ j, j < i → listed.getD j false = true := fun j hj => by
            by_cases e : j = i0
            · subst e
              cases hl : listed.getD j false with
              | true => rfl
              | false => exact absurd ⟨hj, hl⟩ h0
            · exact hall j hj e
          obtain ⟨w'', hrun, hlist⟩ := final V listed w' hV hb hall' hno (fun j h hjh => hrr j h hjh (hall' j (by rw [← hn]; exact (List.getElem?_eq_some_iff.1 hjh).1)))
          refine storeOp _ _ w'' _ hrun (.inr (.inr ⟨i + 1, Nat.le_refl _, fun j hj => ?_, fun j hj => by rw [getD_set_ne false (by omega)]; exact hno j (by omega), hlist⟩))
          by_cases e : j = i
          · subst e; exact hset
          · rw [getD_set_ne false (Ne.symm e)]; exact hall' j (by omega)
      · -- none behind the store can come yet
        have h1 := (((htail i hi).resolve_left (by omega)) n hin).resolve_right (by omega)
        have h2 := reach_listed hsh 6 i n (fun k hk => waits_listed hr hk) h1
        rw [hno n (Nat.le_refl _)] at h2
        cases h2
    · -- the store is done, the late operation is not
      have hii : i = i0 := by
        rcases Nat.lt_or_ge n i with h' | h'
        · have h1 := (((htail i hi).resolve_left (by omega)) i0 (by omega)).resolve_right (by omega)
          have h2 := reach_listed hsh 6 i i0 (fun k hk => waits_listed hr hk) h1
          rw [h0u] at h2
          cases h2
        · by_cases e : i = i0
          · exact e
          · rw [hall i h' e] at hunf; cases hunf
      subst hii
      obtain rfl : oi = o0 := Option.some.inj (hoi.symm.trans ho0)
      unfold Go.wpOp
      simp only [hoi]
      have hw0 : Region.wanted oi (yielded l.toArray a'.tmps) = true := by unfold Region.wanted; rw [hg0]
      rw [if_pos hw0]
      refine .inl ?_
      unfold Oper.wp
      rw [hea, hex w']
      show _ ∨ _ ∨ _
      rw [hA]
      refine .inr (.inr ⟨n + 1, Nat.le_refl _, fun j hj => ?_, fun j hj => by rw [getD_set_ne false (by omega)]; exact hno j hj, hw⟩)
      by_cases e : j = i
      · subst e; exact hset
      · rw [getD_set_ne false (Ne.symm e)]; exact hall j (by omega) e
    · -- behind the store
      have hni : n + 1 ≤ i := by
        rcases Nat.lt_or_ge i (n + 1) with h' | h'
        · rw [hall i (by omega)] at hunf; cases hunf
        · exact h'
      have him : i = m := by
        rcases Nat.lt_trichotomy i m with h' | h' | h'
        · rw [hall i h'] at hunf; cases hunf
        · exact h'
        · have h1 := (((htail i hi).resolve_left (by omega)) m h').resolve_right (by omega)
          have h2 := reach_listed hsh 6 i m (fun k hk => waits_listed hr hk) h1
          rw [hno m (Nat.le_refl _)] at h2; cases h2
      subst him
      have hli : l[i]? = some oi := by simpa using hoi
      have hdrop : l.drop i = oi :: l.drop (i + 1) := by
        have hlt : i < l.length := by omega
        rw [List.drop_eq_getElem_cons hlt]
        congr 1
        rw [List.getElem?_eq_getElem hlt] at hli
        exact Option.some.inj hli
      rw [hdrop] at hw
      simp only [wpList] at hw
      have hall' : ∀ j, j < i + 1 → (listed.setIfInBounds i true).getD j false = true := fun j hj => by
        rcases Nat.lt_or_ge j i with h' | h'
        · rw [getD_set_ne false (by omega)]; exact hall j h'
        · obtain rfl : j = i := by omega
          exact hset
      have hno' : ∀ j, i + 1 ≤ j → (listed.setIfInBounds i true).getD j false = false := fun j hj => by
        rw [getD_set_ne false (by omega)]; exact hno j (by omega)
      unfold Go.wpOp
      simp only [hoi]
      split
      · rename_i hwt
        rw [if_pos hwt] at hw
        exact hw.imp (Oper.wp_mono fun a'' w'' h'' => .inr (.inr ⟨i + 1, by omega, hall', hno', h''⟩)) (fun h => h)
      · rename_i hwt
        rw [if_neg hwt] at hw
        exact .inr (.inr ⟨i + 1, by omega, hall', hno', hw⟩)
  · intro listed a' w' hsh hI hr
    have hall := H.all hsh hr
    rcases hI with ⟨hno, _⟩ | ⟨h0n, h0u, _⟩ | ⟨m, hnm, hall', hno, hw⟩
    · have := hall n hnl
      rw [hno n (Nat.le_refl _)] at this
      cases this
    · have := hall i0 (by omega)
      rw [h0u] at this
      cases this
    · have hmm : l.length ≤ m := by
        rcases Nat.lt_or_ge m l.length with h' | h'
        · have := hall m (by omega); rw [hno m (Nat.le_refl _)] at this; cases this
        · exact h'
      rw [List.drop_eq_nil_of_le hmm] at hw
      exact hw
  · rcases Nat.lt_or_ge j l.length with h' | h' <;> simp [h']
  · obtain ⟨V, hV⟩ := hwit
    refine ⟨V, hV, ?_, (Below.refl _ _).drew, fun j h _ hj => ?_⟩
    · symm
      refine frameOf_none (fun k => ?_) _
      rcases Nat.lt_or_ge k l.length with h' | h' <;> simp [h']
    · rcases Nat.lt_or_ge j l.length with h' | h' <;> simp [h'] at hj
end
end Go.Proofs.YthnojgdckkdcgaaGreatDoor

namespace Go.Proofs.YthnojgdckkdcgaaGreatDoor
open Go.RowKit Go.Sort
/-- a pointer to a street -/
def strS (v : Value) : Prop := ∃ C, v = .tuple #[.pointer (some ⟨C, 0, none⟩), .int .i64 0]
def strR (Aw Af Ao Ap As : Option Addr) (cw cf co cp cs : Nat) (t : Pt) (w : World) (v : Value) : Prop := ∀ C, v = .tuple #[.pointer (some ⟨C, 0, none⟩), .int .i64 0] → ∃ Al cl, StreetAt w C Aw Af Ao Ap As cw cf co cp cs t Al cl
theorem strG {Aw Af Ao Ap As : Option Addr} {cw cf co cp cs : Nat} {t : Pt} : (Stir.held strS (strR Aw Af Ao Ap As cw cf co cp cs t)).good := ⟨⟨_, 0, rfl⟩, fun _ _ _ hb h C e => by
  obtain ⟨Al, cl, h⟩ := h C e
  exact ⟨Al, cl, h.mono hb⟩⟩
theorem own_cap {α : Type} {E : Elem α} {w : World} {N : Nat} {v : Value} {l : List α} (h : OwnE E w N v l) : ∃ A c, v = .slice A l.length c ∧ RowAt w A (E.cells l) ∧ l.length ≤ c ∧ c ≤ 9223372036854775807 := by
  obtain ⟨A, c, e, hr⟩ := h.read
  rcases h.2 with ⟨e2, h1⟩ | ⟨g, cap, cur, e2, _, _, h3, h4, _⟩
  · rw [e] at e2
    injection e2 with _ _ e3
    subst e3
    exact ⟨A, 0, e, hr, Nat.le_of_eq h1, by omega⟩
  · rw [e] at e2
    injection e2 with _ _ e3
    subst e3
    exact ⟨A, c, e, hr, h3, by unfold maxLen at h4; omega⟩
def stpS (v : Value) : Prop := ∃ C, v = .pointer (some ⟨C, 0, none⟩)
def stpR (Aw Af Ao Ap As : Option Addr) (cw cf co cp cs : Nat) (t : Pt) (w : World) (v : Value) : Prop := ∀ C, v = .pointer (some ⟨C, 0, none⟩) → ∃ Al cl, StreetAt w C Aw Af Ao Ap As cw cf co cp cs t Al cl
theorem stpG {Aw Af Ao Ap As : Option Addr} {cw cf co cp cs : Nat} {t : Pt} : (Stir.held stpS (stpR Aw Af Ao Ap As cw cf co cp cs t)).good := ⟨⟨_, 0, rfl⟩, fun _ _ _ hb h C e => by
  obtain ⟨Al, cl, h⟩ := h C e
  exact ⟨Al, cl, h.mono hb⟩⟩
theorem StreetAt.setNew {w : World} {C : Nat} {Aw Af Ao Ap As : Option Addr} {cw cf co cp cs : Nat} {t : Pt} {Al : Option Addr} {cl : Nat} (h : StreetAt w C Aw Af Ao Ap As cw cf co cp cs t Al cl) {b : Nat} {T : TypeId} (hb : TBox w b T #[.pointer none]) (v : Value) (hp : PAt (w.setCell ⟨b, 0, none⟩ v) Aw Af Ao Ap As t) : StreetAt (w.setCell ⟨b, 0, none⟩ v) C Aw Af Ao Ap As cw cf co cp cs t Al cl := by
  have hk : ∀ k, k ≠ b → (w.setCell ⟨b, 0, none⟩ v).heap[k]? = w.heap[k]? := fun k hk => Below.heap_setCell w ⟨b, 0, none⟩ _ k hk
  have hbC : b ≠ C := fun e => by
    subst e
    have h1 : w.heap[b]? = some _ := h.box
    have h2 : w.heap[b]? = some _ := hb
    rw [h1] at h2
    simp at h2
  refine ⟨h.box.other hbC 0 v, ?_, hp, h.sep⟩
  rcases h.left with h0 | ⟨b1, o, hA, hlt, hc⟩
  · exact .inl h0
  · rcases Nat.eq_zero_or_pos t.q.leftL.length with h0 | h0
    · exact .inl h0
    · have hne : b1 ≠ b := fun e => by
        subst e
        have h1 := hc 0 h0
        have h2 := hb.cell (o + 0)
        rw [h1] at h2
        cases o with
        | zero => simp at h2
        | succ o => simp at h2
      exact .inr ⟨b1, o, hA, by simpa [World.setCell] using hlt, fun j hj => (World.cell?_of_block (a := ⟨b1, _, none⟩) (hk b1 hne)).trans (hc j hj)⟩
set_option maxHeartbeats 16000000 in
set_option maxRecDepth 100000 in
theorem decideP9_any (Aw Af Ao Ap As : Option Addr) (cw cf co cp cs : Nat) (t : Pt) (n : Int) (w : World) (hs : t.Small) (hT : PAt w Aw Af Ao Ap As t) (hB : TabAt w) :
    Calls Tryz.prog 44 #[.agg #[.int .i64 t.q.wells, .slice Aw t.q.nw cw, .slice Af t.q.nf cf, .slice Ao t.no co, .slice Ap t.np cp, .slice As t.ns cs, .int .i64 t.far, .int .i64 t.harm, .int .i64 t.many], .int .i64 n] w fun e w' => RefLst w' (t.decErr n) (t.decL n) e ∧ Below w.heap.size w w' := by
  obtain ⟨bb, hbb⟩ : ∃ b, t.hasB n = b := ⟨_, rfl⟩
  obtain ⟨er, her⟩ : ∃ v, t.knowErr bb = v := ⟨_, rfl⟩
  have HC1 := Lib.hid (fun w => hbb ▸ hasP_any Aw Af Ao Ap As cw cf co cp cs t n w hs.ns : ∀ w : World, Calls Tryz.prog 80 #[.agg #[.int .i64 t.q.wells, .slice Aw t.q.nw cw, .slice Af t.q.nf cf, .slice Ao t.no co, .slice Ap t.np cp, .slice As t.ns cs, .int .i64 t.far, .int .i64 t.harm, .int .i64 t.many], .int .i64 n] w fun e w' => e = .returned (.bool bb) ∧ Below w.heap.size w w')
  have HE := Lib.hid (show t.decErr n = if er = 0 then (if t.decB n.toNat t.q.tests then 0 else 3) else er by unfold Pt.decErr; rw [hbb, her])
  have HER := Lib.hid her
  have HBB := Lib.hid hbb
  clear hbb her
  have HD0 := Lib.hid (Below.refl w.heap.size w)
  have HSM := Lib.hid hs
  have HT0 := Lib.hid hT
  have HTB0 := Lib.hid hB
  clear hs hT hB
  go_enter Tryz.func44, Tryz.ntmps44
  by_cases he : er = 0
  case neg =>
    have g0 : (er != 0) = true := by simp [he]
    have HNZ := Lib.hid he
    have HR := Lib.hid (HE.out.trans (if_neg he))
    clear he
    go_wp2_with fail
    have HCO := Lib.hid (fun (w' : World) (hb : Below ((w.alloc (.cells #[.int .i64 t.q.wells, .slice Aw t.q.nw cw, .slice Af t.q.nf cf, .slice Ao t.no co, .slice Ap t.np cp, .slice As t.ns cs, .int .i64 t.far, .int .i64 t.harm, .int .i64 t.many] 62)).alloc (.cells #[.int .i64 n] 3)).heap.size ((w.alloc (.cells #[.int .i64 t.q.wells, .slice Aw t.q.nw cw, .slice Af t.q.nf cf, .slice Ao t.no co, .slice Ap t.np cp, .slice As t.ns cs, .int .i64 t.far, .int .i64 t.harm, .int .i64 t.many] 62)).alloc (.cells #[.int .i64 n] 3)) w') => ((openP_any Aw Af Ao Ap As cw cf co cp cs t bb w' HSM.out ((HT0.out.mono (bAlloc (bAlloc (Below.refl _ _) (.cells #[.int .i64 t.q.wells, .slice Aw t.q.nw cw, .slice Af t.q.nf cf, .slice Ao t.no co, .slice Ap t.np cp, .slice As t.ns cs, .int .i64 t.far, .int .i64 t.harm, .int .i64 t.many] 62)) (.cells #[.int .i64 n] 3))).mono hb) ((HTB0.out.mono (bAlloc (bAlloc (Below.refl _ _) (.cells #[.int .i64 t.q.wells, .slice Aw t.q.nw cw, .slice Af t.q.nf cf, .slice Ao t.no co, .slice Ap t.np cp, .slice As t.ns cs, .int .i64 t.far, .int .i64 t.harm, .int .i64 t.many] 62)) (.cells #[.int .i64 n] 3))).mono hb)).mono fun e w'' h => ⟨(HER.out ▸ h.1 : StrOut w'' w'.heap.size Aw Af Ao Ap As cw cf co cp cs t er e), h.2⟩ : Calls Tryz.prog 82 #[.agg #[.int .i64 t.q.wells, .slice Aw t.q.nw cw, .slice Af t.q.nf cf, .slice Ao t.no co, .slice Ap t.np cp, .slice As t.ns cs, .int .i64 t.far, .int .i64 t.harm, .int .i64 t.many], .bool bb] w' fun e w'' => StrOut w'' w'.heap.size Aw Af Ao Ap As cw cf co cp cs t er e ∧ Below w'.heap.size w' w''))
    refine wp_region_late 9 7 [.const (.agg #[.int .i64 t.q.wells, .slice Aw t.q.nw cw, .slice Af t.q.nf cf, .slice Ao t.no co, .slice Ap t.np cp, .slice As t.ns cs, .int .i64 t.far, .int .i64 t.harm, .int .i64 t.many]), .const (.agg #[.int .i64 t.q.wells, .slice Aw t.q.nw cw, .slice Af t.q.nf cf, .slice Ao t.no co, .slice Ap t.np cp, .slice As t.ns cs, .int .i64 t.far, .int .i64 t.harm, .int .i64 t.many]), .const (.int .i64 n), .const (.bool bb), .const (.tuple #[.pointer none, .int .i64 er]), .const (.tuple #[.pointer none, .int .i64 er]), .const (.pointer none), .const (.int .i64 er), .held boxS (boxR ((w.alloc (.cells #[.int .i64 t.q.wells, .slice Aw t.q.nw cw, .slice Af t.q.nf cf, .slice Ao t.no co, .slice Ap t.np cp, .slice As t.ns cs, .int .i64 t.far, .int .i64 t.harm, .int .i64 t.many] 62)).alloc (.cells #[.int .i64 n] 3)).heap.size 135 #[.pointer none])]
      (by kernel_rfl) (by kernel_rfl) rfl ⟨trivial, trivial, trivial, trivial, trivial, trivial, trivial, trivial, boxG, trivial⟩ (crossAll_no _ _ _ _ trivial) rfl rfl rfl (fun _ => ⟨_, _, _, _, rfl, rfl, rfl, rfl⟩) ?_
    iterate 3 refine wpStir_const (by go_simp) ?_
    refine wpStir_call rfl (fun w' hb hd => ?_) ?_
    · clear hd
      go_simp
      exact HC1.out w'
    refine wpStir_call rfl (fun w' hb hd => ?_) ?_
    · clear hd
      go_simp
      refine (HCO.out w' hb).mono ?_
      rintro e w'' ⟨ho, hb'⟩
      exact ⟨ho.1 HNZ.out, hb'⟩
    iterate 3 refine wpStir_const (by go_simp) ?_
    simp only [Act.put, List.setIfInBounds_toArray, List.set_cons_succ, List.set_cons_zero]
    refine wpStir_held rfl (fun w' hb hd => ?_) (fun v hv => ?_)
    · clear hd
      have hz := hb.size
      go_simp
      refine ⟨bAlloc (Below.refl _ _) _, ⟨_, rfl⟩, fun b e => ?_⟩
      obtain rfl : w'.heap.size = b := by simpa using e
      exact ⟨by simpa using hz, TBox.new _ _ _⟩
    obtain ⟨bx, rfl⟩ := hv
    refine wpStir_end (fun w55 hb5 hd => ?_)
    obtain ⟨hbx, htb⟩ := hd.1 _ rfl
    clear hd
    have hx0 : w55.cell? ⟨bx, 0, none⟩ = some (.pointer none) := htb.cell 0
    have hf0 := htb.frozen 0
    have hxl := htb.lt
    simp only [Act.put, List.setIfInBounds_toArray, List.set_cons_succ, List.set_cons_zero, List.drop_succ_cons, List.drop_zero]
    refine ⟨w55.setCell ⟨bx, 0, none⟩ (.pointer none), by go_simp, ?_⟩
    have htb2 := htb.set 0 (.pointer none)
    have hb : Below ((w.alloc (.cells #[.int .i64 t.q.wells, .slice Aw t.q.nw cw, .slice Af t.q.nf cf, .slice Ao t.no co, .slice Ap t.np cp, .slice As t.ns cs, .int .i64 t.far, .int .i64 t.harm, .int .i64 t.many] 62)).alloc (.cells #[.int .i64 n] 3)).heap.size ((w.alloc (.cells #[.int .i64 t.q.wells, .slice Aw t.q.nw cw, .slice Af t.q.nf cf, .slice Ao t.no co, .slice Ap t.np cp, .slice As t.ns cs, .int .i64 t.far, .int .i64 t.harm, .int .i64 t.many] 62)).alloc (.cells #[.int .i64 n] 3)) (w55.setCell ⟨bx, 0, none⟩ (.pointer none)) := Below.setCell (p := ⟨bx, 0, none⟩) hb5 hbx (.pointer none)
    generalize w55.setCell ⟨bx, 0, none⟩ (.pointer none) = w1 at htb2 hb ⊢
    have hB1 : Below w.heap.size w w1 := bTrans (bAlloc (bAlloc (Below.refl _ _) (.cells #[.int .i64 t.q.wells, .slice Aw t.q.nw cw, .slice Af t.q.nf cf, .slice Ao t.no co, .slice Ap t.np cp, .slice As t.ns cs, .int .i64 t.far, .int .i64 t.harm, .int .i64 t.many] 62)) (.cells #[.int .i64 n] 3)) hb
    have HD1 := Lib.hid (bTrans HD0.out hB1)
    have HT1 := Lib.hid (HT0.out.mono hB1)
    have HTB1 := Lib.hid (HTB0.out.mono hB1)
    have S1 := Lib.hid ((show TBox w1 bx 135 #[.pointer none] from htb2))
    have T1 := Lib.hid (show TBox w1 w.heap.size 62 #[.int .i64 t.q.wells, .slice Aw t.q.nw cw, .slice Af t.q.nf cf, .slice Ao t.no co, .slice Ap t.np cp, .slice As t.ns cs, .int .i64 t.far, .int .i64 t.harm, .int .i64 t.many] from by have := ((TBox.new w #[.int .i64 t.q.wells, .slice Aw t.q.nw cw, .slice Af t.q.nf cf, .slice Ao t.no co, .slice Ap t.np cp, .slice As t.ns cs, .int .i64 t.far, .int .i64 t.harm, .int .i64 t.many] 62).mono (bAlloc (Below.refl _ _) (.cells #[.int .i64 n] 3))).mono hb; simpa using this)
    have I1 := Lib.hid (show TBox w1 (w.heap.size + 1) 3 #[.int .i64 n] from by have := ((TBox.new (w.alloc (.cells #[.int .i64 t.q.wells, .slice Aw t.q.nw cw, .slice Af t.q.nf cf, .slice Ao t.no co, .slice Ap t.np cp, .slice As t.ns cs, .int .i64 t.far, .int .i64 t.harm, .int .i64 t.many] 62)) #[.int .i64 n] 3).mono (Below.refl _ _)).mono hb; simpa using this)
    clear hb hB1 HD0 HT0 HTB0
    obtain ⟨T_0, T_1, T_2, T_3, T_4, T_5, T_6, T_7, T_8, T_l⟩ := T1.out.c9
    obtain ⟨I_0, I_l⟩ := I1.out.c1
    clear htb htb2 hx0 hf0 hxl hb5 hbx
    obtain ⟨S_0, S_l⟩ := S1.out.c1
    go_wp2_with fail
    go_ret2
    exact ⟨⟨fun h => absurd (HR.out.symm.trans h) HNZ.out, fun _ => by rw [HR.out]; rfl⟩, HD1.out⟩
  subst he
  have HEZ := Lib.hid (HE.out.trans (if_pos rfl))
  obtain ⟨ok, rfl, hne⟩ := Pt.knowErr_zero HER.out
  have HOK := Lib.hid ok
  have hn := hasB_iff.1 HBB.out
  obtain ⟨i, rfl⟩ : ∃ i : Nat, n = (i : Int) := ⟨n.toNat, by omega⟩
  have HI := Lib.hid (show i < t.ns by omega)
  rw [Int.toNat_natCast] at HEZ
  clear ok hn hne
  go_wp2_with fail
  have HCO := Lib.hid (fun (w' : World) (hb : Below ((w.alloc (.cells #[.int .i64 t.q.wells, .slice Aw t.q.nw cw, .slice Af t.q.nf cf, .slice Ao t.no co, .slice Ap t.np cp, .slice As t.ns cs, .int .i64 t.far, .int .i64 t.harm, .int .i64 t.many] 62)).alloc (.cells #[.int .i64 (i : Int)] 3)).heap.size ((w.alloc (.cells #[.int .i64 t.q.wells, .slice Aw t.q.nw cw, .slice Af t.q.nf cf, .slice Ao t.no co, .slice Ap t.np cp, .slice As t.ns cs, .int .i64 t.far, .int .i64 t.harm, .int .i64 t.many] 62)).alloc (.cells #[.int .i64 (i : Int)] 3)) w') => ((openP_any Aw Af Ao Ap As cw cf co cp cs t true w' HSM.out ((HT0.out.mono (bAlloc (bAlloc (Below.refl _ _) (.cells #[.int .i64 t.q.wells, .slice Aw t.q.nw cw, .slice Af t.q.nf cf, .slice Ao t.no co, .slice Ap t.np cp, .slice As t.ns cs, .int .i64 t.far, .int .i64 t.harm, .int .i64 t.many] 62)) (.cells #[.int .i64 (i : Int)] 3))).mono hb) ((HTB0.out.mono (bAlloc (bAlloc (Below.refl _ _) (.cells #[.int .i64 t.q.wells, .slice Aw t.q.nw cw, .slice Af t.q.nf cf, .slice Ao t.no co, .slice Ap t.np cp, .slice As t.ns cs, .int .i64 t.far, .int .i64 t.harm, .int .i64 t.many] 62)) (.cells #[.int .i64 (i : Int)] 3))).mono hb)).mono fun e w'' h => ⟨(HER.out ▸ h.1 : StrOut w'' w'.heap.size Aw Af Ao Ap As cw cf co cp cs t 0 e), h.2⟩ : Calls Tryz.prog 82 #[.agg #[.int .i64 t.q.wells, .slice Aw t.q.nw cw, .slice Af t.q.nf cf, .slice Ao t.no co, .slice Ap t.np cp, .slice As t.ns cs, .int .i64 t.far, .int .i64 t.harm, .int .i64 t.many], .bool true] w' fun e w'' => StrOut w'' w'.heap.size Aw Af Ao Ap As cw cf co cp cs t 0 e ∧ Below w'.heap.size w' w''))
  refine wp_region_late 9 7 [.const (.agg #[.int .i64 t.q.wells, .slice Aw t.q.nw cw, .slice Af t.q.nf cf, .slice Ao t.no co, .slice Ap t.np cp, .slice As t.ns cs, .int .i64 t.far, .int .i64 t.harm, .int .i64 t.many]), .const (.agg #[.int .i64 t.q.wells, .slice Aw t.q.nw cw, .slice Af t.q.nf cf, .slice Ao t.no co, .slice Ap t.np cp, .slice As t.ns cs, .int .i64 t.far, .int .i64 t.harm, .int .i64 t.many]), .const (.int .i64 (i : Int)), .const (.bool true), .held strS (strR Aw Af Ao Ap As cw cf co cp cs t), .held strS (strR Aw Af Ao Ap As cw cf co cp cs t), .held stpS (stpR Aw Af Ao Ap As cw cf co cp cs t), .const (.int .i64 0), .held boxS (boxR ((w.alloc (.cells #[.int .i64 t.q.wells, .slice Aw t.q.nw cw, .slice Af t.q.nf cf, .slice Ao t.no co, .slice Ap t.np cp, .slice As t.ns cs, .int .i64 t.far, .int .i64 t.harm, .int .i64 t.many] 62)).alloc (.cells #[.int .i64 (i : Int)] 3)).heap.size 135 #[.pointer none])]
    (by kernel_rfl) (by kernel_rfl) rfl ⟨trivial, trivial, trivial, trivial, strG, strG, stpG, trivial, boxG, trivial⟩ (crossAll_no _ _ _ _ trivial) rfl rfl rfl (fun _ => ⟨_, _, _, _, rfl, rfl, rfl, rfl⟩) ?_
  iterate 3 refine wpStir_const (by go_simp) ?_
  refine wpStir_call rfl (fun w' hb hd => ?_) ?_
  · clear hd
    go_simp
    exact HC1.out w'
  refine wpStir_held rfl (fun w' hb hd => ?_) (fun v hv => ?_)
  · clear hd
    go_simp
    refine (HCO.out w' hb).mono ?_
    rintro e w'' ⟨ho, hb'⟩
    obtain ⟨C, Al, cl, rfl, hst, _⟩ := ho.2 rfl
    refine ⟨_, rfl, hb', ⟨_, rfl⟩, fun C' e => ?_⟩
    obtain rfl : C = C' := by simpa using e
    exact ⟨Al, cl, hst⟩
  obtain ⟨C0, rfl⟩ := hv
  refine wpStir_held rfl (fun w' hb hd => ?_) (fun v hv => ?_)
  · have hs0 : strR Aw Af Ao Ap As cw cf co cp cs t w' _ := hd.1 (by kernel_rfl)
    clear hd
    go_simp
    first | exact ⟨⟨_, rfl⟩, hs0⟩ | exact ⟨_, rfl⟩
  obtain ⟨C1, rfl⟩ := hv
  refine wpStir_held rfl (fun w' hb hd => ?_) (fun v hv => ?_)
  · have hs0 := (show strR Aw Af Ao Ap As cw cf co cp cs t w' (.tuple #[.pointer (some ⟨C1, 0, none⟩), .int .i64 0]) from hd.1 (by kernel_rfl)) C1 rfl
    clear hd
    go_simp
    refine ⟨⟨_, rfl⟩, fun C' e => ?_⟩
    obtain rfl : C1 = C' := by simpa using e
    exact hs0
  obtain ⟨C, rfl⟩ := hv
  refine wpStir_const (by go_simp) ?_
  simp only [Act.put, List.setIfInBounds_toArray, List.set_cons_succ, List.set_cons_zero]
  refine wpStir_held rfl (fun w' hb hd => ?_) (fun v hv => ?_)
  · clear hd
    have hz := hb.size
    go_simp
    refine ⟨bAlloc (Below.refl _ _) _, ⟨_, rfl⟩, fun b e => ?_⟩
    obtain rfl : w'.heap.size = b := by simpa using e
    exact ⟨by simpa using hz, TBox.new _ _ _⟩
  obtain ⟨bx, rfl⟩ := hv
  refine wpStir_end (fun w55 hb5 hd => ?_)
  obtain ⟨hbx, htb⟩ := hd.1 _ rfl
  obtain ⟨Al, cl, hst⟩ := (show stpR Aw Af Ao Ap As cw cf co cp cs t w55 (.pointer (some ⟨C, 0, none⟩)) from hd.2.1) C rfl
  clear hd
  have hx0 : w55.cell? ⟨bx, 0, none⟩ = some (.pointer none) := htb.cell 0
  have hf0 := htb.frozen 0
  have hxl := htb.lt
  simp only [Act.put, List.setIfInBounds_toArray, List.set_cons_succ, List.set_cons_zero, List.drop_succ_cons, List.drop_zero]
  refine ⟨w55.setCell ⟨bx, 0, none⟩ (.pointer (some ⟨C, 0, none⟩)), by go_simp, ?_⟩
  have htb2 := htb.set 0 (.pointer (some ⟨C, 0, none⟩))
  have hb : Below ((w.alloc (.cells #[.int .i64 t.q.wells, .slice Aw t.q.nw cw, .slice Af t.q.nf cf, .slice Ao t.no co, .slice Ap t.np cp, .slice As t.ns cs, .int .i64 t.far, .int .i64 t.harm, .int .i64 t.many] 62)).alloc (.cells #[.int .i64 (i : Int)] 3)).heap.size ((w.alloc (.cells #[.int .i64 t.q.wells, .slice Aw t.q.nw cw, .slice Af t.q.nf cf, .slice Ao t.no co, .slice Ap t.np cp, .slice As t.ns cs, .int .i64 t.far, .int .i64 t.harm, .int .i64 t.many] 62)).alloc (.cells #[.int .i64 (i : Int)] 3)) (w55.setCell ⟨bx, 0, none⟩ (.pointer (some ⟨C, 0, none⟩))) := Below.setCell (p := ⟨bx, 0, none⟩) hb5 hbx (.pointer (some ⟨C, 0, none⟩))
  have hst2 := hst.setNew htb (.pointer (some ⟨C, 0, none⟩)) ((HT0.out.mono (bAlloc (bAlloc (Below.refl _ _) (.cells #[.int .i64 t.q.wells, .slice Aw t.q.nw cw, .slice Af t.q.nf cf, .slice Ao t.no co, .slice Ap t.np cp, .slice As t.ns cs, .int .i64 t.far, .int .i64 t.harm, .int .i64 t.many] 62)) (.cells #[.int .i64 (i : Int)] 3))).mono hb)
  generalize w55.setCell ⟨bx, 0, none⟩ (.pointer (some ⟨C, 0, none⟩)) = w1 at htb2 hb hst2 ⊢
  have hB1 : Below w.heap.size w w1 := bTrans (bAlloc (bAlloc (Below.refl _ _) (.cells #[.int .i64 t.q.wells, .slice Aw t.q.nw cw, .slice Af t.q.nf cf, .slice Ao t.no co, .slice Ap t.np cp, .slice As t.ns cs, .int .i64 t.far, .int .i64 t.harm, .int .i64 t.many] 62)) (.cells #[.int .i64 (i : Int)] 3)) hb
  have HD1 := Lib.hid (bTrans HD0.out hB1)
  have HT1 := Lib.hid (HT0.out.mono hB1)
  have HTB1 := Lib.hid (HTB0.out.mono hB1)
  have S1 := Lib.hid ((show TBox w1 bx 135 #[.pointer (some ⟨C, 0, none⟩)] from htb2))
  have HST1 := Lib.hid (hst2)
  have T1 := Lib.hid (show TBox w1 w.heap.size 62 #[.int .i64 t.q.wells, .slice Aw t.q.nw cw, .slice Af t.q.nf cf, .slice Ao t.no co, .slice Ap t.np cp, .slice As t.ns cs, .int .i64 t.far, .int .i64 t.harm, .int .i64 t.many] from by have := ((TBox.new w #[.int .i64 t.q.wells, .slice Aw t.q.nw cw, .slice Af t.q.nf cf, .slice Ao t.no co, .slice Ap t.np cp, .slice As t.ns cs, .int .i64 t.far, .int .i64 t.harm, .int .i64 t.many] 62).mono (bAlloc (Below.refl _ _) (.cells #[.int .i64 (i : Int)] 3))).mono hb; simpa using this)
  have I1 := Lib.hid (show TBox w1 (w.heap.size + 1) 3 #[.int .i64 (i : Int)] from by have := ((TBox.new (w.alloc (.cells #[.int .i64 t.q.wells, .slice Aw t.q.nw cw, .slice Af t.q.nf cf, .slice Ao t.no co, .slice Ap t.np cp, .slice As t.ns cs, .int .i64 t.far, .int .i64 t.harm, .int .i64 t.many] 62)) #[.int .i64 (i : Int)] 3).mono (Below.refl _ _)).mono hb; simpa using this)
  clear hb hB1 HD0 HT0 HTB0
  obtain ⟨T_0, T_1, T_2, T_3, T_4, T_5, T_6, T_7, T_8, T_l⟩ := T1.out.c9
  obtain ⟨I_0, I_l⟩ := I1.out.c1
  clear htb htb2 hx0 hf0 hxl hb5 hbx
  obtain ⟨S_0, S_l⟩ := S1.out.c1
  go_wp2_with fail
  have HMW := Lib.hid (Pt.m_wells HOK.out)
  have hm4 : t.m ≤ 4 := by have := HOK.out.q.w1; have := HMW.out; omega
  clear T_0 T_1 T_2 T_3 T_4 T_5 T_6 T_7 T_8 T_l I_0 I_l S_0 S_l
  go_loopw [8, 29] (fun s8 s29 wr => ∃ k : Nat, k ≤ t.m ∧ s29 = .int .i64 (k : Int) ∧ OwnE tstE wr w1.heap.size s8 (testsTo t.m k 0) ∧ Below w1.heap.size w1 wr) (fun _ s29 _ => t.m - (intOf s29).toNat)
  case atStart => exact ⟨0, Nat.zero_le _, rfl, OwnE.nil _ _ _, Below.refl _ _⟩
  case round =>
    obtain ⟨k, hk_k, rfl, hown, hb⟩ := hrel
    have HBk := Lib.hid hb
    have HOWN := Lib.hid hown
    clear hown
    have hB2 : Below w1.heap.size w1 wr := bTrans (Below.refl _ _) hb
    have HD2 := Lib.hid (bTrans HD1.out hB2)
    have HT2 := Lib.hid (HT1.out.mono hB2)
    have HTB2 := Lib.hid (HTB1.out.mono hB2)
    have HST2 := Lib.hid (HST1.out.mono hB2)
    have HU_k2 := Lib.hid ((show Upto w1 wr from HBk.out))
    have T2 := Lib.hid (T1.out.mono hB2)
    have I2 := Lib.hid (I1.out.mono hB2)
    have S2 := Lib.hid (S1.out.mono hB2)
    clear hb hB2
    obtain ⟨T_0, T_1, T_2, T_3, T_4, T_5, T_6, T_7, T_8, T_l⟩ := T2.out.c9
    obtain ⟨I_0, I_l⟩ := I2.out.c1
    obtain ⟨S_0, S_l⟩ := S2.out.c1
    by_cases hlt_k : k < t.m
    case pos =>
      have h1_k : (k : Int) < (t.m : Int) := by omega
      have h0_k : (0 : Int) ≤ (k : Int) := by omega
      have hb_k : k < 100 := by omega
      have hkw : (k : Int) < t.q.wells := by have := HMW.out; omega
      go_wp2_with fail
      clear T_0 T_1 T_2 T_3 T_4 T_5 T_6 T_7 T_8 T_l I_0 I_l S_0 S_l
      go_loopw [8, 35] (fun s8 s35 wx => ∃ j : Nat, j ≤ t.m ∧ s35 = .int .i64 (j : Int) ∧ OwnE tstE wx w1.heap.size s8 (testsTo t.m k j) ∧ Below w1.heap.size w1 wx) (fun _ s35 _ => t.m - (intOf s35).toNat)
      case atStart => exact ⟨0, Nat.zero_le _, rfl, HOWN.out, HU_k2.out⟩
      case round =>
        obtain ⟨j, hj, rfl, hown2, hbel2⟩ := hrel
        have HO2 := Lib.hid hown2
        have HL2 := Lib.hid hbel2
        have hz2 := hbel2.size
        clear hown2 hbel2
        by_cases hjm : j < t.m
        case pos =>
          have j1 : (j : Int) < t.q.wells := by have := HMW.out; omega
          have HLE := Lib.hid (show (testsTo t.m k j).length ≤ 100000 by rw [testsTo_len]; have : k * t.m ≤ 4 * 4 := Nat.mul_le_mul (by omega) hm4; omega)
          go_wp2_with (at_builtin; refine wpList_snocE tstG _ rfl (Operand.tmp 38) (Operand.tmp 42) rfl w1.heap.size _ (testsTo t.m k j) (k, j) rfl ?q1 wr.heap.size rfl ?q2 HLE.out ?q4 ?_)
          case q1 => exact HO2.out.mono (bAlloc (Below.refl _ _) _)
          case q2 =>
            intro a u hu
            match a, hu with
            | 0, hu =>
              obtain rfl : Value.int .i64 k = u := by simpa [tstE] using hu
              simp [go_sem]
            | 1, hu =>
              obtain rfl : Value.int .i64 j = u := by simpa [tstE] using hu
              simp [go_sem]
          case q4 => simp; omega
          intro v' w57 hown5 hb57 _ _
          have HO5 := Lib.hid ((testsTo_snoc t.m k j) ▸ hown5)
          have HL5 := Lib.hid (hb57 (w1.heap.size) w1 (Nat.le_refl _) (HL2.out.trans ((bAlloc (Below.refl wr.heap.size wr) _).mono hz2)))
          clear hown5 hb57
          go_wp2_with fail
          go_roundw
          case rel =>
            first
            | exact ⟨j + 1, by omega, by go_num, HO5.out, HL5.out⟩
            | ((repeat apply Exists.intro)
               refine ⟨⟨j + 1, by omega, ?_, HO5.out, HL5.out⟩, rfl⟩
               go_num)
          case measure => simp [intOf]; omega
        have hje : j = t.m := by omega
        have HO5 := Lib.hid (show OwnE tstE wr w1.heap.size _ (testsTo t.m (k + 1) 0) from testsTo_row t.m k ▸ hje ▸ HO2.out)
        have j1 : ¬ (j : Int) < t.q.wells := by have := HMW.out; omega
        clear hje
        go_wp2_with fail
        go_roundw
        case rel =>
          first
          | exact ⟨k + 1, by omega, by go_num, HO5.out, HL2.out⟩
          | ((repeat apply Exists.intro)
             refine ⟨⟨k + 1, by omega, ?_, HO5.out, HL2.out⟩, rfl⟩
             go_num)
        case measure => simp [intOf]; omega
    have he_k : k = t.m := by omega
    have hk1 : ¬ (k : Int) < t.q.wells := by have := HMW.out; omega
    have hts : OwnE tstE wr w1.heap.size _ t.q.tests := (show testsTo t.m t.m 0 = t.q.tests from testsTo_all t.m) ▸ (he_k ▸ HOWN.out)
    obtain ⟨A5, c5, e5, hr5, hc5, hm5⟩ := own_cap hts
    have hz16 := tests_len HOK.out.q
    obtain ⟨z, hz⟩ : ∃ z, t.q.tests.length = z := ⟨_, rfl⟩
    rw [hz] at e5 hc5 hz16
    subst e5
    have HZ := Lib.hid hz
    have HRW2 := Lib.hid hr5
    have HC5 := Lib.hid hc5
    have HM5 := Lib.hid hm5
    clear hr5 hts hz HOWN hc5 hm5 he_k
    obtain ⟨bz, hbz⟩ : ∃ b, t.decB i t.q.tests = b := ⟨_, rfl⟩
    have HBZ := Lib.hid hbz
    clear hbz
    go_wp2_with fail
    refine ((by have := decideP_any C Aw Af Ao Ap As cw cf co cp cs t Al cl i A5 c5 t.q.tests wr HST2.out HOK.out HI.out (tests_ok5 HOK.out.q) HRW2.out (by rw [HZ.out]; omega); rw [HBZ.out, HZ.out] at this; exact this : Calls Tryz.prog 102 #[.pointer (some ⟨C, 0, none⟩), .int .i64 (i : Int), .slice A5 z c5] wr fun e w' => e = .returned (.bool bz) ∧ Below wr.heap.size wr w')).mono ?_
    rintro e w3 ⟨rfl, hb⟩
    have hB3 : Below wr.heap.size wr w3 := bTrans (Below.refl _ _) hb
    have HD3 := Lib.hid (bTrans HD2.out hB3)
    have HT3 := Lib.hid (HT2.out.mono hB3)
    have HTB3 := Lib.hid (HTB2.out.mono hB3)
    have HST3 := Lib.hid (HST2.out.mono hB3)
    have HU_k3 := Lib.hid (HU_k2.out.mono hB3)
    have HRW3 := Lib.hid (HRW2.out.mono hB3)
    have T3 := Lib.hid (T2.out.mono hB3)
    have I3 := Lib.hid (I2.out.mono hB3)
    have S3 := Lib.hid (S2.out.mono hB3)
    clear hb hB3 HD2 HT2 HTB2 HST2 HU_k2 HRW2 T2 T_0 T_1 T_2 T_3 T_4 T_5 T_6 T_7 T_8 T_l I2 I_0 I_l S2 S_0 S_l
    obtain ⟨T_0, T_1, T_2, T_3, T_4, T_5, T_6, T_7, T_8, T_l⟩ := T3.out.c9
    obtain ⟨I_0, I_l⟩ := I3.out.c1
    obtain ⟨S_0, S_l⟩ := S3.out.c1
    cases bz
    case false =>
      have HR := Lib.hid (show t.decErr (i : Int) = 3 by rw [HEZ.out, HBZ.out]; rfl)
      go_wp2_with fail
      go_ret2
      exact ⟨⟨fun h => absurd (HR.out.symm.trans h) (by decide), fun _ => by rw [HR.out]; rfl⟩, HD3.out⟩
    have HR := Lib.hid (show t.decErr (i : Int) = 0 by rw [HEZ.out, HBZ.out]; rfl)
    obtain ⟨p, hp⟩ : ∃ p : List Tp → Bool, p = fun x => t.decB i x := ⟨_, rfl⟩
    have HP := Lib.hid hp
    have HDL := Lib.hid (show t.decL (i : Int) = fewestL t.q.tests p by unfold Pt.decL; rw [hp, Int.toNat_natCast])
    clear hp
    go_wp2_with fail
    obtain ⟨wl289, hwl⟩ : ∃ y, y = wr := ⟨_, rfl⟩
    subst hwl
    clear T_0 T_1 T_2 T_3 T_4 T_5 T_6 T_7 T_8 T_l I_0 I_l S_0 S_l
    go_loopw [54] (fun s54 wr => ∃ h : Nat, h ≤ z ∧ s54 = .int .i64 (h : Int) ∧ firstUpTo t.q.tests p 0 h = none ∧ Below (w3.alloc (.cells #[.func (.func 103) #[] #[.pointer (some ⟨bx, 0, none⟩), .pointer (some ⟨(w.heap.size + 1), 0, none⟩), .pointer (some ⟨w3.heap.size, 0, none⟩)]] 161)).heap.size (w3.alloc (.cells #[.func (.func 103) #[] #[.pointer (some ⟨bx, 0, none⟩), .pointer (some ⟨(w.heap.size + 1), 0, none⟩), .pointer (some ⟨w3.heap.size, 0, none⟩)]] 161)) wr) (fun s54 _ => z - (intOf s54).toNat)
    case atStart => exact ⟨0, Nat.zero_le _, rfl, rfl, Below.refl _ _⟩
    case round =>
      obtain ⟨h, hk_h, rfl, hno, hb⟩ := hrel
      have HBh := Lib.hid hb
      have HNO := Lib.hid hno
      clear hno
      have hB4 : Below w3.heap.size w3 wr := bTrans (bAlloc (Below.refl _ _) (.cells #[.func (.func 103) #[] #[.pointer (some ⟨bx, 0, none⟩), .pointer (some ⟨(w.heap.size + 1), 0, none⟩), .pointer (some ⟨w3.heap.size, 0, none⟩)]] 161)) hb
      have HD4 := Lib.hid (bTrans HD3.out hB4)
      have HT4 := Lib.hid (HT3.out.mono hB4)
      have HTB4 := Lib.hid (HTB3.out.mono hB4)
      have HST4 := Lib.hid (HST3.out.mono hB4)
      have HU_k4 := Lib.hid (HU_k3.out.mono hB4)
      have HRW4 := Lib.hid (HRW3.out.mono hB4)
      have HU_h4 := Lib.hid ((show Upto (w3.alloc (.cells #[.func (.func 103) #[] #[.pointer (some ⟨bx, 0, none⟩), .pointer (some ⟨(w.heap.size + 1), 0, none⟩), .pointer (some ⟨w3.heap.size, 0, none⟩)]] 161)) wr from HBh.out))
      have T4 := Lib.hid (T3.out.mono hB4)
      have I4 := Lib.hid (I3.out.mono hB4)
      have S4 := Lib.hid (S3.out.mono hB4)
      have F4 := Lib.hid (show TBox wr w3.heap.size 161 #[.func (.func 103) #[] #[.pointer (some ⟨bx, 0, none⟩), .pointer (some ⟨(w.heap.size + 1), 0, none⟩), .pointer (some ⟨w3.heap.size, 0, none⟩)]] from by have := ((TBox.new w3 #[.func (.func 103) #[] #[.pointer (some ⟨bx, 0, none⟩), .pointer (some ⟨(w.heap.size + 1), 0, none⟩), .pointer (some ⟨w3.heap.size, 0, none⟩)]] 161).mono (Below.refl _ _)).mono hb; simpa using this)
      clear hb hB4
      obtain ⟨T_0, T_1, T_2, T_3, T_4, T_5, T_6, T_7, T_8, T_l⟩ := T4.out.c9
      obtain ⟨I_0, I_l⟩ := I4.out.c1
      obtain ⟨S_0, S_l⟩ := S4.out.c1
      obtain ⟨F_0, F_l⟩ := F4.out.c1
      by_cases hlt_h : h < z
      case pos =>
        have h1_h : (h : Int) < (z : Int) := by omega
        have h0_h : (0 : Int) ≤ (h : Int) := by omega
        have hb_h : h < 100 := by omega
        obtain ⟨r, hr⟩ : ∃ r, (listsL t.q.tests h).find? p = r := ⟨_, rfl⟩
        have HRR := Lib.hid hr
        clear hr
        have HFC := Lib.hid (show Calls Tryz.prog 103 #[.slice none 0 0, .slice A5 z c5, .int .i64 (h : Int), .pointer (some ⟨bx, 0, none⟩), .pointer (some ⟨(w.heap.size + 1), 0, none⟩), .pointer (some ⟨w3.heap.size, 0, none⟩)] wr fun e w' => FindOut9 w' r [] e ∧ Below wr.heap.size wr w' from by
          have hf := find9_any (C := C) (Al := Al) (cl := cl) (bs := bx) (bp := (w.heap.size + 1)) (bf := w3.heap.size) HOK.out HI.out h [] none 0 t.q.tests A5 c5 wr ⟨HST4.out, BoxAt.one S4.out.lt (S4.out.cell 0), BoxAt.one I4.out.lt (I4.out.cell 0), BoxAt.one F4.out.lt (F4.out.cell 0)⟩ (.inl ⟨rfl, rfl, rfl⟩) (fun x hx => by cases hx) (by simp; omega) HRW4.out (by rw [HZ.out]; exact HC5.out) HM5.out (tests_ok5 HOK.out.q) (by rw [HZ.out]; omega)
          rw [HZ.out] at hf
          rw [← HRR.out, HP.out]
          exact hf)
        go_wp2_with fail
        refine (HFC.out).mono ?_
        rintro e w5 ⟨⟨ho1, ho2⟩, hb⟩
        have hB5 : Below wr.heap.size wr w5 := bTrans (Below.refl _ _) hb
        have HD5 := Lib.hid (bTrans HD4.out hB5)
        have HT5 := Lib.hid (HT4.out.mono hB5)
        have HTB5 := Lib.hid (HTB4.out.mono hB5)
        have HST5 := Lib.hid (HST4.out.mono hB5)
        have HU_k5 := Lib.hid (HU_k4.out.mono hB5)
        have HRW5 := Lib.hid (HRW4.out.mono hB5)
        have HU_h5 := Lib.hid (HU_h4.out.mono hB5)
        have T5 := Lib.hid (T4.out.mono hB5)
        have I5 := Lib.hid (I4.out.mono hB5)
        have S5 := Lib.hid (S4.out.mono hB5)
        have F5 := Lib.hid (F4.out.mono hB5)
        clear hb hB5 HD4 HT4 HTB4 HST4 HU_k4 HRW4 HU_h4 T4 T_0 T_1 T_2 T_3 T_4 T_5 T_6 T_7 T_8 T_l I4 I_0 I_l S4 S_0 S_l F4 F_0 F_l
        obtain ⟨T_0, T_1, T_2, T_3, T_4, T_5, T_6, T_7, T_8, T_l⟩ := T5.out.c9
        obtain ⟨I_0, I_l⟩ := I5.out.c1
        obtain ⟨S_0, S_l⟩ := S5.out.c1
        obtain ⟨F_0, F_l⟩ := F5.out.c1
        cases r with
        | none =>
          obtain ⟨v7, rfl⟩ := ho2 rfl
          have HF2 := Lib.hid (firstUpTo_none HNO.out HRR.out)
          clear ho1 ho2
          go_wp2_with fail
          go_roundw
          case rel =>
            first
            | exact ⟨h + 1, by omega, by go_num, HF2.out, HU_h5.out⟩
            | ((repeat apply Exists.intro)
               refine ⟨⟨h + 1, by omega, ?_, HF2.out, HU_h5.out⟩, rfl⟩
               go_num)
          case measure => simp [intOf]; omega
        | some x =>
          obtain ⟨A7, c7, rfl, hl2⟩ := ho1 x rfl
          have HL2 := Lib.hid (show LstAt w5 A7 c7 x from hl2)
          have HFF := Lib.hid (show t.decL (i : Int) = x by rw [HDL.out]; exact first_found HNO.out HRR.out (by rw [HZ.out]; omega))
          obtain ⟨m2, hm2⟩ : ∃ m2, ([] ++ x).length = m2 := ⟨_, rfl⟩
          have HM2 := Lib.hid hm2
          rw [hm2]
          clear ho1 ho2 hl2 hm2
          go_wp2_with fail
          go_ret2
          exact ⟨⟨fun _ => ⟨A7, c7, by rw [HR.out, HFF.out, show x.length = m2 from HM2.out]; rfl, by rw [HFF.out]; exact HL2.out.row⟩, fun hx => absurd HR.out hx⟩, HD5.out⟩
      have he_h : h = z := by omega
      have hk9 : ¬ (h : Int) < (z : Int) := by omega
      have hk8 : ¬ h < z := by omega
      have HFF := Lib.hid (show t.decL (i : Int) = t.q.tests by rw [HDL.out]; unfold fewestL; rw [HZ.out, ← he_h, HNO.out]; rfl)
      clear he_h
      go_wp2_with fail
      go_ret2
      exact ⟨⟨fun _ => ⟨A5, c5, by rw [HR.out, HFF.out, HZ.out]; rfl, by rw [HFF.out]; exact HRW4.out⟩, fun hx => absurd HR.out hx⟩, HD4.out⟩
end Go.Proofs.YthnojgdckkdcgaaGreatDoor

namespace Go.Proofs.YthnojgdckkdcgaaGreatDoor
open Go.RowKit Go.Sort
set_option maxHeartbeats 40000000 in
set_option maxRecDepth 100000 in
theorem topToldApart_a (Aw Af Ao Ap As : Option Addr) (cw cf co cp cs : Nat) (t : Pt) (wd sp : Int) (w : World) (hs : t.Fits) (hT : PAt w Aw Af Ao Ap As t) (hB : TabAt w) (hN : NoneAt w) (hE : t.decErr sp = 3) :
    Calls Tryz.prog 6 #[.agg #[.int .i64 t.q.wells, .slice Aw t.q.nw cw, .slice Af t.q.nf cf, .slice Ao t.no co, .slice Ap t.np cp, .slice As t.ns cs, .int .i64 t.far, .int .i64 t.harm, .int .i64 t.many], .int .i64 wd, .int .i64 sp] w fun e w' => e = .returned (.bool true) ∧ Below w.heap.size w w' := by
  have HD0 := Lib.hid (Below.refl w.heap.size w)
  have HFI := Lib.hid hs
  have HT0 := Lib.hid hT
  have HTB0 := Lib.hid hB
  have HNA0 := Lib.hid hN
  have HEE := Lib.hid hE
  clear hs hT hB hN hE
  go_enter Tryz.func6, Tryz.ntmps6
  have HSM := Lib.hid HFI.out.small
  go_wp2_with fail
  refine (far9_any Aw Af Ao Ap As cw cf co cp cs t _ HSM.out (HT0.out.mono (bAlloc (Below.refl _ _) (.cells #[.int .i64 t.q.wells, .slice Aw t.q.nw cw, .slice Af t.q.nf cf, .slice Ao t.no co, .slice Ap t.np cp, .slice As t.ns cs, .int .i64 t.far, .int .i64 t.harm, .int .i64 t.many] 62)))).mono ?_
  rintro e w1 ⟨⟨bf, rfl⟩, hb⟩
  have hB1 : Below w.heap.size w w1 := bTrans (bAlloc (Below.refl _ _) (.cells #[.int .i64 t.q.wells, .slice Aw t.q.nw cw, .slice Af t.q.nf cf, .slice Ao t.no co, .slice Ap t.np cp, .slice As t.ns cs, .int .i64 t.far, .int .i64 t.harm, .int .i64 t.many] 62)) hb
  have HD1 := Lib.hid (bTrans HD0.out hB1)
  have HT1 := Lib.hid (HT0.out.mono hB1)
  have HTB1 := Lib.hid (HTB0.out.mono hB1)
  have HNA1 := Lib.hid (HNA0.out.mono hB1)
  have T1 := Lib.hid (show TBox w1 w.heap.size 62 #[.int .i64 t.q.wells, .slice Aw t.q.nw cw, .slice Af t.q.nf cf, .slice Ao t.no co, .slice Ap t.np cp, .slice As t.ns cs, .int .i64 t.far, .int .i64 t.harm, .int .i64 t.many] from by have := ((TBox.new w #[.int .i64 t.q.wells, .slice Aw t.q.nw cw, .slice Af t.q.nf cf, .slice Ao t.no co, .slice Ap t.np cp, .slice As t.ns cs, .int .i64 t.far, .int .i64 t.harm, .int .i64 t.many] 62).mono (Below.refl _ _)).mono hb; simpa using this)
  clear hb hB1 HD0 HT0 HTB0 HNA0
  obtain ⟨T_0, T_1, T_2, T_3, T_4, T_5, T_6, T_7, T_8, T_l⟩ := T1.out.c9
  cases bf
  case true =>
    go_wp2_with fail
    refine (dug_any _ HTB1.out HNA1.out).mono ?_
    rintro e w2 ⟨rfl, hb⟩
    have hB2 : Below w1.heap.size w1 w2 := bTrans (Below.refl _ _) hb
    have HD2 := Lib.hid (bTrans HD1.out hB2)
    have HT2 := Lib.hid (HT1.out.mono hB2)
    have HTB2 := Lib.hid (HTB1.out.mono hB2)
    have HNA2 := Lib.hid (HNA1.out.mono hB2)
    have T2 := Lib.hid (T1.out.mono hB2)
    clear hb hB2 HD1 HT1 HTB1 HNA1 T1 T_0 T_1 T_2 T_3 T_4 T_5 T_6 T_7 T_8 T_l
    obtain ⟨T_0, T_1, T_2, T_3, T_4, T_5, T_6, T_7, T_8, T_l⟩ := T2.out.c9
    go_wp2_with fail
    go_ret
    exact ⟨rfl, HD2.out⟩
  go_wp2_with fail
  refine (check9_any Aw Af Ao Ap As cw cf co cp cs t _ HSM.out HT1.out).mono ?_
  rintro e w2 ⟨rfl, hb⟩
  have hB2 : Below w1.heap.size w1 w2 := bTrans (Below.refl _ _) hb
  have HD2 := Lib.hid (bTrans HD1.out hB2)
  have HT2 := Lib.hid (HT1.out.mono hB2)
  have HTB2 := Lib.hid (HTB1.out.mono hB2)
  have HNA2 := Lib.hid (HNA1.out.mono hB2)
  have T2 := Lib.hid (T1.out.mono hB2)
  clear hb hB2 HD1 HT1 HTB1 HNA1 T1 T_0 T_1 T_2 T_3 T_4 T_5 T_6 T_7 T_8 T_l
  obtain ⟨T_0, T_1, T_2, T_3, T_4, T_5, T_6, T_7, T_8, T_l⟩ := T2.out.c9
  by_cases hok : t.Ok
  case neg =>
    rw [Pt.err_bad hok]
    clear hok
    go_wp2_with fail
    refine (dug_any _ HTB2.out HNA2.out).mono ?_
    rintro e w3 ⟨rfl, hb⟩
    have hB3 : Below w2.heap.size w2 w3 := bTrans (Below.refl _ _) hb
    have HD3 := Lib.hid (bTrans HD2.out hB3)
    have HT3 := Lib.hid (HT2.out.mono hB3)
    have HTB3 := Lib.hid (HTB2.out.mono hB3)
    have HNA3 := Lib.hid (HNA2.out.mono hB3)
    have T3 := Lib.hid (T2.out.mono hB3)
    clear hb hB3 HD2 HT2 HTB2 HNA2 T2 T_0 T_1 T_2 T_3 T_4 T_5 T_6 T_7 T_8 T_l
    obtain ⟨T_0, T_1, T_2, T_3, T_4, T_5, T_6, T_7, T_8, T_l⟩ := T3.out.c9
    go_wp2_with fail
    go_ret
    exact ⟨rfl, HD3.out⟩
  rw [Pt.err_ok hok]
  have HOK := Lib.hid hok
  clear hok
  go_wp2_with fail
  obtain ⟨bb, hbb⟩ : ∃ b, t.hasB sp = b := ⟨_, rfl⟩
  refine (hbb ▸ isSpotN9_any Aw Af Ao Ap As cw cf co cp cs t sp _ HSM.out.ns).mono ?_
  rintro e w3 ⟨rfl, hb⟩
  have hB3 : Below w2.heap.size w2 w3 := bTrans (Below.refl _ _) hb
  have HD3 := Lib.hid (bTrans HD2.out hB3)
  have HT3 := Lib.hid (HT2.out.mono hB3)
  have HTB3 := Lib.hid (HTB2.out.mono hB3)
  have HNA3 := Lib.hid (HNA2.out.mono hB3)
  have T3 := Lib.hid (T2.out.mono hB3)
  clear hb hB3 HD2 HT2 HTB2 HNA2 T2 T_0 T_1 T_2 T_3 T_4 T_5 T_6 T_7 T_8 T_l
  obtain ⟨T_0, T_1, T_2, T_3, T_4, T_5, T_6, T_7, T_8, T_l⟩ := T3.out.c9
  cases bb
  case false =>
    clear hbb
    go_wp2_with fail
    refine (dug_any _ HTB3.out HNA3.out).mono ?_
    rintro e w4 ⟨rfl, hb⟩
    have hB4 : Below w3.heap.size w3 w4 := bTrans (Below.refl _ _) hb
    have HD4 := Lib.hid (bTrans HD3.out hB4)
    have HT4 := Lib.hid (HT3.out.mono hB4)
    have HTB4 := Lib.hid (HTB3.out.mono hB4)
    have HNA4 := Lib.hid (HNA3.out.mono hB4)
    have T4 := Lib.hid (T3.out.mono hB4)
    clear hb hB4 HD3 HT3 HTB3 HNA3 T3 T_0 T_1 T_2 T_3 T_4 T_5 T_6 T_7 T_8 T_l
    obtain ⟨T_0, T_1, T_2, T_3, T_4, T_5, T_6, T_7, T_8, T_l⟩ := T4.out.c9
    go_wp2_with fail
    go_ret
    exact ⟨rfl, HD4.out⟩
  have hn := hasB_iff.1 hbb
  obtain ⟨i, rfl⟩ : ∃ i : Nat, sp = (i : Int) := ⟨sp.toNat, by omega⟩
  have HI := Lib.hid (show i < t.ns by omega)
  clear hn hbb
  by_cases hnf : 2 < t.q.nf
  case pos =>
    have hn1 : (2 : Int) < (t.q.nf : Int) := by omega
    have hn2 : decide ((t.q.nf : Int) > 2) = true := by simp; omega
    go_wp2_with fail
    refine (dug_any _ HTB3.out HNA3.out).mono ?_
    rintro e w4 ⟨rfl, hb⟩
    have hB4 : Below w3.heap.size w3 w4 := bTrans (Below.refl _ _) hb
    have HD4 := Lib.hid (bTrans HD3.out hB4)
    have HT4 := Lib.hid (HT3.out.mono hB4)
    have HTB4 := Lib.hid (HTB3.out.mono hB4)
    have HNA4 := Lib.hid (HNA3.out.mono hB4)
    have T4 := Lib.hid (T3.out.mono hB4)
    clear hb hB4 HD3 HT3 HTB3 HNA3 T3 T_0 T_1 T_2 T_3 T_4 T_5 T_6 T_7 T_8 T_l
    obtain ⟨T_0, T_1, T_2, T_3, T_4, T_5, T_6, T_7, T_8, T_l⟩ := T4.out.c9
    go_wp2_with fail
    go_ret
    exact ⟨rfl, HD4.out⟩
  have H2 := Lib.hid (show t.q.nf ≤ 2 by omega)
  have hn1 : ¬ (2 : Int) < (t.q.nf : Int) := by omega
  have hn2 : decide ((t.q.nf : Int) > 2) = false := by simp; omega
  have hn3 : decide ((2 : Int) < (t.q.nf : Int)) = false := by simp; omega
  go_wp2_with fail
  refine (leftOf9_any Aw Af Ao Ap As cw cf co cp cs t _ HOK.out HT3.out).mono ?_
  rintro e w4 ⟨⟨A4, c4, rfl, hi4⟩, hb⟩
  have hB4 : Below w3.heap.size w3 w4 := bTrans (Below.refl _ _) hb
  have HD4 := Lib.hid (bTrans HD3.out hB4)
  have HT4 := Lib.hid (HT3.out.mono hB4)
  have HTB4 := Lib.hid (HTB3.out.mono hB4)
  have HNA4 := Lib.hid (HNA3.out.mono hB4)
  have HI44 := Lib.hid (hi4)
  have T4 := Lib.hid (T3.out.mono hB4)
  clear hb hB4 HD3 HT3 HTB3 HNA3 T3 T_0 T_1 T_2 T_3 T_4 T_5 T_6 T_7 T_8 T_l
  obtain ⟨T_0, T_1, T_2, T_3, T_4, T_5, T_6, T_7, T_8, T_l⟩ := T4.out.c9
  clear hi4
  go_wp2_with fail
  obtain ⟨bb, hbb⟩ : ∃ b, decide (wd ∈ t.q.leftL) = b := ⟨_, rfl⟩
  have hl6 := left_len HOK.out.q
  refine ((mem_anyB t.q.leftL wd).trans hbb ▸ in1_any A4 t.q.leftL.length c4 (intL0 t.q.leftL) wd _ (by omega) HI44.out).mono ?_
  rintro e w5 ⟨rfl, hb⟩
  have hB5 : Below w4.heap.size w4 w5 := bTrans (Below.refl _ _) hb
  have HD5 := Lib.hid (bTrans HD4.out hB5)
  have HT5 := Lib.hid (HT4.out.mono hB5)
  have HTB5 := Lib.hid (HTB4.out.mono hB5)
  have HNA5 := Lib.hid (HNA4.out.mono hB5)
  have T5 := Lib.hid (T4.out.mono hB5)
  clear hb hB5 HD4 HT4 HTB4 HNA4 HI44 T4 T_0 T_1 T_2 T_3 T_4 T_5 T_6 T_7 T_8 T_l
  obtain ⟨T_0, T_1, T_2, T_3, T_4, T_5, T_6, T_7, T_8, T_l⟩ := T5.out.c9
  cases bb
  case false =>
    clear hbb hl6
    go_wp2_with fail
    refine (dug_any _ HTB5.out HNA5.out).mono ?_
    rintro e w6 ⟨rfl, hb⟩
    have hB6 : Below w5.heap.size w5 w6 := bTrans (Below.refl _ _) hb
    have HD6 := Lib.hid (bTrans HD5.out hB6)
    have HT6 := Lib.hid (HT5.out.mono hB6)
    have HTB6 := Lib.hid (HTB5.out.mono hB6)
    have HNA6 := Lib.hid (HNA5.out.mono hB6)
    have T6 := Lib.hid (T5.out.mono hB6)
    clear hb hB6 HD5 HT5 HTB5 HNA5 T5 T_0 T_1 T_2 T_3 T_4 T_5 T_6 T_7 T_8 T_l
    obtain ⟨T_0, T_1, T_2, T_3, T_4, T_5, T_6, T_7, T_8, T_l⟩ := T6.out.c9
    go_wp2_with fail
    go_ret
    exact ⟨rfl, HD6.out⟩
  have hmem : wd ∈ t.q.leftL := of_decide_eq_true hbb
  obtain ⟨j, hj, _, rfl⟩ := (leftTo_mem t.q t.q.nw).1 hmem
  have HWJ := Lib.hid hmem
  have HNE := Lib.hid (List.ne_nil_of_mem hmem)
  have HJ := Lib.hid hj
  clear hmem hj hbb hl6
  go_wp2_with fail
  clear hn1 hn2 hn3 hnf
  obtain ⟨L, hL⟩ : ∃ L, t.q.fewest t.q.leftL = L := ⟨_, rfl⟩
  obtain ⟨nl, hnl⟩ : ∃ n, L.length = n := ⟨_, rfl⟩
  obtain ⟨er, her⟩ : ∃ e, t.decErr (i : Int) = e := ⟨_, rfl⟩
  have HER := Lib.hid her
  have HL0 := Lib.hid hL
  have HNL := Lib.hid hnl
  have HSB := Lib.hid (show List.Sublist L t.q.tests from hL ▸ fewest_sub t.q t.q.leftL)
  have HLO := Lib.hid (show t.q.TestsOk L from fun x hx => tests_ok5 HOK.out.q x (HSB.out.subset hx))
  have hlm := (sub_tests HSB.out).2.1
  rw [hnl] at hlm
  have HN16 := Lib.hid (show nl ≤ 16 by have h2 := HOK.out.q.w0; have h3 := HOK.out.q.w1; have h4 : t.q.wells.toNat ≤ 4 := (by omega); have := Nat.mul_le_mul h4 h4; omega)
  have hway : er = 3 ∨ er = 0 ∧ t.decB i t.q.tests = true := by
    rw [← her]
    unfold Pt.decErr
    rw [hasB_in HI.out, Pt.knowErr_ok HOK.out HNE.out, if_pos rfl, Int.toNat_natCast]
    cases h : t.decB i t.q.tests
    · exact .inl rfl
    · exact .inr ⟨rfl, rfl⟩
  have hq1 : ¬ (nl : Int) > 16 := by have := HN16.out; omega
  have hq2 : ¬ (16 : Int) < (nl : Int) := by have := HN16.out; omega
  have h0 : er = 3 := her ▸ HEE.out
  clear her hL hnl hlm hway
  refine ((by have := fewestQ_any Aw Af cw cf t.q w5 HSM.out.q HT5.out.q HTB5.out; rw [knowErr_ok HOK.out.q HNE.out, HL0.out] at this; exact this : Calls Tryz.prog 43 #[.agg #[.int .i64 t.q.wells, .slice Aw t.q.nw cw, .slice Af t.q.nf cf]] w5 fun e w' => LstOut w' 0 L e ∧ Below w5.heap.size w5 w')).mono ?_
  rintro e w6 ⟨ho, hb⟩
  obtain ⟨A5, c5, rfl, hl7⟩ := ho.1 rfl
  rw [HNL.out]
  have hB6 : Below w5.heap.size w5 w6 := bTrans (Below.refl _ _) hb
  have HD6 := Lib.hid (bTrans HD5.out hB6)
  have HT6 := Lib.hid (HT5.out.mono hB6)
  have HTB6 := Lib.hid (HTB5.out.mono hB6)
  have HNA6 := Lib.hid (HNA5.out.mono hB6)
  have HLA6 := Lib.hid (hl7.row)
  have T6 := Lib.hid (T5.out.mono hB6)
  clear hb hB6 HD5 HT5 HTB5 HNA5 T5 T_0 T_1 T_2 T_3 T_4 T_5 T_6 T_7 T_8 T_l
  obtain ⟨T_0, T_1, T_2, T_3, T_4, T_5, T_6, T_7, T_8, T_l⟩ := T6.out.c9
  clear ho hl7
  go_wp2_with fail
  refine ((decideP9_any Aw Af Ao Ap As cw cf co cp cs t (i : Int) w6 HSM.out HT6.out HTB6.out)).mono ?_
  rintro e w7 ⟨ho, hb⟩
  obtain ⟨A6, c6, rfl, hr⟩ := ho.o
  clear hr
  obtain ⟨n6, hn6⟩ : ∃ n, (lstO (t.decErr (i : Int)) (t.decL (i : Int))).length = n := ⟨_, rfl⟩
  rw [hn6, HER.out]
  have hB7 : Below w6.heap.size w6 w7 := bTrans (Below.refl _ _) hb
  have HD7 := Lib.hid (bTrans HD6.out hB7)
  have HT7 := Lib.hid (HT6.out.mono hB7)
  have HTB7 := Lib.hid (HTB6.out.mono hB7)
  have HNA7 := Lib.hid (HNA6.out.mono hB7)
  have HLA7 := Lib.hid (HLA6.out.mono hB7)
  have T7 := Lib.hid (T6.out.mono hB7)
  clear hb hB7 HD6 HT6 HTB6 HNA6 HLA6 T6 T_0 T_1 T_2 T_3 T_4 T_5 T_6 T_7 T_8 T_l
  obtain ⟨T_0, T_1, T_2, T_3, T_4, T_5, T_6, T_7, T_8, T_l⟩ := T7.out.c9
  clear ho hn6
  subst h0
  go_wp2_with fail
  clear hq1 hq2
  go_loopw [12] (fun s wr => ∃ (k : Nat) (o : Pt) (Bw Bf Bo Bp Bs : Option Addr) (dw df do_ dp ds : Nat), k ≤ nl ∧ s = .int .i64 (k : Int) ∧ t.toldAll (j : Int) (L.take k) = o ∧ PAt wr Bw Bf Bo Bp Bs o ∧ TBox wr w7.heap.size 62 #[.int .i64 o.q.wells, .slice Bw o.q.nw dw, .slice Bf o.q.nf df, .slice Bo o.no do_, .slice Bp o.np dp, .slice Bs o.ns ds, .int .i64 o.far, .int .i64 o.harm, .int .i64 o.many] ∧ Below w7.heap.size w7 wr) (fun s _ => nl - (intOf s).toNat)
  case atStart => exact ⟨0, t, Aw, Af, Ao, Ap, As, cw, cf, co, cp, cs, Nat.zero_le _, rfl, rfl, HT7.out.mono (bAlloc (Below.refl _ _) _), TBox.new _ _ _, bAlloc (Below.refl _ _) _⟩
  case round =>
    obtain ⟨k, o, Bw, Bf, Bo, Bp, Bs, dw, df, do_, dp, ds, hk, rfl, ho, hq, hbx, hb⟩ := hrel
    have HOA := Lib.hid ho
    have HOX := Lib.hid hbx
    have HOF := Lib.hid (show o.Fits by rw [← ho]; exact toldAll_fits HFI.out H2.out (by rw [List.length_take, HNL.out]; have := HN16.out; omega))
    have HSO := Lib.hid HOF.out.small
    clear ho hbx
    clear T_0 T_1 T_2 T_3 T_4 T_5 T_6 T_7 T_8 T_l
    have hB8 : Below w7.heap.size w7 wr := bTrans (Below.refl _ _) hb
    have HD8 := Lib.hid (bTrans HD7.out hB8)
    have HT8 := Lib.hid (HT7.out.mono hB8)
    have HTB8 := Lib.hid (HTB7.out.mono hB8)
    have HNA8 := Lib.hid (HNA7.out.mono hB8)
    have HLA8 := Lib.hid (HLA7.out.mono hB8)
    have HQ8 := Lib.hid (hq)
    have HRL8 := Lib.hid ((show Upto w7 wr from hb))
    have T8 := Lib.hid (T7.out.mono hB8)
    clear hb hB8
    obtain ⟨T_0, T_1, T_2, T_3, T_4, T_5, T_6, T_7, T_8, T_l⟩ := T8.out.c9
    have O8 := HOX
    clear HOX
    obtain ⟨O_0, O_1, O_2, O_3, O_4, O_5, O_6, O_7, O_8, O_l⟩ := O8.out.c9
    by_cases hlt : k < nl
    case pos =>
      obtain ⟨x, hx⟩ : ∃ x, L[k]? = some x := ⟨_, List.getElem?_eq_getElem (by rw [HNL.out]; exact hlt)⟩
      obtain ⟨bb, oo, rfl, hbb, cq1, cq2⟩ := SliceE.tst HLA8.out hx
      have hxo := HLO.out x (List.mem_of_getElem? hx)
      obtain ⟨a, b⟩ := x
      have HA1 := Lib.hid (show (a : Int) < t.q.wells from hxo.1)
      have HB1 := Lib.hid (show (b : Int) < t.q.wells from hxo.2)
      have HTB9 := Lib.hid (show t.q.testB (a : Int) (b : Int) = true from test_in HOK.out.q hxo.1 hxo.2)
      have has := toldAll_succ (t := t) (a := (j : Int)) hx
      obtain ⟨v, hv⟩ : ∃ v, t.q.F (j : Int) (a, b) = v := ⟨_, rfl⟩
      rw [hv, HOA.out] at has
      obtain ⟨o2, ho2⟩ : ∃ o2, o.told (shownF (a, b) v) = o2 := ⟨_, rfl⟩
      rw [ho2] at has
      have HAS := Lib.hid has
      have HV := Lib.hid hv
      have HO2 := Lib.hid ho2
      have k1 : (k : Int) < (nl : Int) := by omega
      have k0 : (0 : Int) ≤ (k : Int) := by omega
      have k100 : k < 100 := by have := HN16.out; omega
      have cq1 : wr.cell? ⟨bb, oo + k * 2, none⟩ = some (.int .i64 (a : Int)) := cq1
      have cq2 : wr.cell? ⟨bb, oo + k * 2 + 1, none⟩ = some (.int .i64 (b : Int)) := cq2
      have HX := Lib.hid hx
      clear hx hxo has hv ho2
      have HCT := Lib.hid (fun (w' : World) (hb : Below wr.heap.size wr w') => (HTB9.out ▸ isTest5_any Aw Af cw cf t.q (a : Int) (b : Int) w' : Calls Tryz.prog 45 #[.agg #[.int .i64 t.q.wells, .slice Aw t.q.nw cw, .slice Af t.q.nf cf], .agg #[.int .i64 (a : Int), .int .i64 (b : Int)]] w' fun e w'' => e = .returned (.bool true) ∧ Below w'.heap.size w' w''))
      go_wp2_with fail
      refine wp_region_quiet_below (by kernel_rfl) (by kernel_rfl) ?_
      repeat (go_big_quiet_step (((go_at_call 45; with_reducible exact Calls.regrown_of (HCT.out _ (below_regrown _ _ _))))))
      refine wpQuiet_nil ?_
      intro w9 hw9
      have hb := below_of_regrown hw9
      clear hw9
      clear cq1 cq2 HCT
      have hB9 : Below wr.heap.size wr w9 := bTrans (Below.refl _ _) hb
      have HD9 := Lib.hid (bTrans HD8.out hB9)
      have HT9 := Lib.hid (HT8.out.mono hB9)
      have HTB9 := Lib.hid (HTB8.out.mono hB9)
      have HNA9 := Lib.hid (HNA8.out.mono hB9)
      have HLA9 := Lib.hid (HLA8.out.mono hB9)
      have HQ9 := Lib.hid (HQ8.out.mono hB9)
      have HRL9 := Lib.hid (HRL8.out.mono hB9)
      have T9 := Lib.hid (T8.out.mono hB9)
      have O9 := Lib.hid (O8.out.mono hB9)
      clear hb hB9 HD8 HT8 HTB8 HNA8 HLA8 HQ8 HRL8 T8 T_0 T_1 T_2 T_3 T_4 T_5 T_6 T_7 T_8 T_l O8 O_0 O_1 O_2 O_3 O_4 O_5 O_6 O_7 O_8 O_l
      obtain ⟨T_0, T_1, T_2, T_3, T_4, T_5, T_6, T_7, T_8, T_l⟩ := T9.out.c9
      obtain ⟨O_0, O_1, O_2, O_3, O_4, O_5, O_6, O_7, O_8, O_l⟩ := O9.out.c9
      go_wp2_with fail
      obtain ⟨_, _, e5, _, cq1, cq2⟩ := SliceE.tst HLA9.out (HX.out)
      simp only [Option.some.injEq, Addr.mk.injEq, and_true] at e5
      obtain ⟨rfl, rfl⟩ := e5
      refine wp_region_stir 21 [.const (.agg #[.int .i64 o.q.wells, .slice Bw o.q.nw dw, .slice Bf o.q.nf df, .slice Bo o.no do_, .slice Bp o.np dp, .slice Bs o.ns ds, .int .i64 o.far, .int .i64 o.harm, .int .i64 o.many]), .const (.slice (some ⟨bb, oo, none⟩) nl c5), .const (.int .i64 (k : Int)), .const (.pointer (some ⟨bb, oo + k * 2, none⟩)), .const (.agg #[.int .i64 (a : Int), .int .i64 (b : Int)]), .const (.pointer (some ⟨w.heap.size, 0, none⟩)), .const (.agg #[.int .i64 t.q.wells, .slice Aw t.q.nw cw, .slice Af t.q.nf cf]), .const (.int .i64 (j : Int)), .const (.slice (some ⟨bb, oo, none⟩) nl c5), .const (.int .i64 (k : Int)), .const (.pointer (some ⟨bb, oo + k * 2, none⟩)), .const (.pointer (some ⟨bb, oo + k * 2, none⟩)), .const (.int .i64 (a : Int)), .const (.slice (some ⟨bb, oo, none⟩) nl c5), .const (.int .i64 (k : Int)), .const (.pointer (some ⟨bb, oo + k * 2, none⟩)), .const (.pointer (some ⟨bb, oo + k * 2 + 1, none⟩)), .const (.int .i64 (b : Int)), .const (.int .i64 v), .const (.agg #[.int .i64 (a : Int), .int .i64 1, .int .i64 (b : Int), .int .i64 v, .int .i64 v]), .held (pcS o2) (pcR w9.heap.size o2)]
        (by kernel_rfl) (by kernel_rfl) rfl ⟨trivial, trivial, trivial, trivial, trivial, trivial, trivial, trivial, trivial, trivial, trivial, trivial, trivial, trivial, trivial, trivial, trivial, trivial, trivial, trivial, pcG, trivial⟩ (crossAll_no _ _ _ _ trivial) ?_
      iterate 18 refine wpStir_const (by go_simp) ?_
      refine wpStir_call rfl (fun w' hb hd => ?_) ?_
      · clear hd
        have hfc := Lib.hid (fallAt_F t.q j a b ▸ fall5_any Aw Af cw cf t.q j a b w' HOK.out.q HJ.out HA1.out HB1.out (HT9.out.mono hb).q)
        rw [HV.out] at hfc
        go_simp
        refine hfc.out.mono ?_
        rintro e w'' ⟨rfl, hb'⟩
        exact ⟨rfl, hb'⟩
      refine wpStir_call rfl (fun w' hb hd => ?_) ?_
      · clear hd
        go_simp
        refine (shownAs5_any a b v w').mono ?_
        rintro e w'' ⟨rfl, hb'⟩
        exact ⟨rfl, hb'⟩
      simp only [Act.put, List.setIfInBounds_toArray, List.set_cons_succ, List.set_cons_zero]
      refine wpStir_held rfl (fun w' hb hd => ?_) (fun v9 hv9 => ?_)
      · clear hd
        have hto := Lib.hid (told9c_any Bw Bf Bo Bp Bs dw df do_ dp ds o (shownF (a, b) v) w' HOF.out (HQ9.out.mono hb))
        rw [HO2.out] at hto
        have hz := hb.size
        go_simp
        refine hto.out.mono ?_
        rintro e w'' ⟨ho, hb'⟩
        obtain ⟨v8, rfl, h1, h2⟩ := ho.pc hz
        exact ⟨v8, rfl, hb', h1, h2⟩
      obtain ⟨Cw, Cf, Co, Cp, Cs, ew, ef, eo, ep, es, rfl⟩ := hv9
      refine wpStir_end (fun w5 hb5 hd => ?_)
      have hcp := hd.1 _ _ _ _ _ _ _ _ _ _ rfl
      clear hd
      have htb : TBox w5 w7.heap.size 62 #[.int .i64 o.q.wells, .slice Bw o.q.nw dw, .slice Bf o.q.nf df, .slice Bo o.no do_, .slice Bp o.np dp, .slice Bs o.ns ds, .int .i64 o.far, .int .i64 o.harm, .int .i64 o.many] := O9.out.mono hb5
      obtain ⟨hx0, hx1, hx2, hx3, hx4, hx5, hx6, hx7, hx8, hxl⟩ := htb.c9
      have hf0 := htb.frozen 0
      have hf1 := htb.frozen 1
      have hf2 := htb.frozen 2
      have hf3 := htb.frozen 3
      have hf4 := htb.frozen 4
      have hf5 := htb.frozen 5
      have hf6 := htb.frozen 6
      have hf7 := htb.frozen 7
      have hf8 := htb.frozen 8
      simp only [Act.put, List.setIfInBounds_toArray, List.set_cons_succ, List.set_cons_zero, List.drop_succ_cons, List.drop_zero]
      have ty : ∃ cs, TBox w5 w7.heap.size 62 cs := ⟨_, htb⟩
      obtain ⟨w20, hw20⟩ : ∃ w20, (((((((((w5.setCell ⟨w7.heap.size, 0, none⟩ (.int .i64 o2.q.wells)).setCell ⟨w7.heap.size, 1, none⟩ (.slice Cw o2.q.nw ew)).setCell ⟨w7.heap.size, 2, none⟩ (.slice Cf o2.q.nf ef)).setCell ⟨w7.heap.size, 3, none⟩ (.slice Co o2.no eo)).setCell ⟨w7.heap.size, 4, none⟩ (.slice Cp o2.np ep)).setCell ⟨w7.heap.size, 5, none⟩ (.slice Cs o2.ns es)).setCell ⟨w7.heap.size, 6, none⟩ (.int .i64 o2.far)).setCell ⟨w7.heap.size, 7, none⟩ (.int .i64 o2.harm)).setCell ⟨w7.heap.size, 8, none⟩ (.int .i64 o2.many)) = w20 := ⟨_, rfl⟩
      have hc9 : CopyAt9 w20 w9.heap.size (.slice Cw o2.q.nw ew) (.slice Cf o2.q.nf ef) (.slice Co o2.no eo) (.slice Cp o2.np ep) (.slice Cs o2.ns es) o2 := by
        rw [← hw20]
        repeat with_reducible refine CopyAt9.setTy ?_ ?_ _ _
        · exact hcp
        all_goals repeat (first | with_reducible refine TyB.set ?_ _ _ _ | with_reducible exact ty)
      have hbb3 : Below w7.heap.size w7 w20 := by
        rw [← hw20]
        have k9 : Below w7.heap.size w7 w5 := (bTrans (show Below w7.heap.size w7 w9 from HRL9.out) hb5)
        repeat (with_reducible refine Below.setCell ?_ ?_ _)
        · exact k9
        all_goals exact Nat.le_refl _
      have htb3 : TBox w20 w7.heap.size 62 #[.int .i64 o2.q.wells, .slice Cw o2.q.nw ew, .slice Cf o2.q.nf ef, .slice Co o2.no eo, .slice Cp o2.np ep, .slice Cs o2.ns es, .int .i64 o2.far, .int .i64 o2.harm, .int .i64 o2.many] := by
        rw [← hw20]
        have := ((((((((htb.set 0 (.int .i64 o2.q.wells)).set 1 (.slice Cw o2.q.nw ew)).set 2 (.slice Cf o2.q.nf ef)).set 3 (.slice Co o2.no eo)).set 4 (.slice Cp o2.np ep)).set 5 (.slice Cs o2.ns es)).set 6 (.int .i64 o2.far)).set 7 (.int .i64 o2.harm)).set 8 (.int .i64 o2.many)
        exact this
      have HW20 := Lib.hid hw20
      have HQ2 := Lib.hid (told_chain hc9)
      have HT3 := Lib.hid htb3
      have HB3 := Lib.hid hbb3
      clear hc9 hbb3 htb3 hw20 hcp htb hb5 ty
      unfold pcV
      refine wpList_skip rfl rfl (w'' := w20) (by rw [← HW20.out]; go_simp) ?_
      go_wp2_with fail
      go_roundw
      case rel =>
        first
        | exact ⟨k + 1, o2, Cw, Cf, Co, Cp, Cs, ew, ef, eo, ep, es, by omega, by go_num, HAS.out, HQ2.out, HT3.out, HB3.out⟩
        | ((repeat apply Exists.intro)
           refine ⟨⟨k + 1, o2, Cw, Cf, Co, Cp, Cs, ew, ef, eo, ep, es, by omega, ?_, HAS.out, HQ2.out, HT3.out, HB3.out⟩, rfl⟩
           go_num)
      case measure => simp [intOf]; omega
    obtain rfl : k = nl := by omega
    have k1 : ¬ (k : Int) < (k : Int) := by omega
    go_wp2_with fail
    go_wp2_with fail
    refine (dug_any _ HTB8.out HNA8.out).mono ?_
    rintro e w9 ⟨rfl, hb⟩
    have hB9 : Below wr.heap.size wr w9 := bTrans (Below.refl _ _) hb
    have HD9 := Lib.hid (bTrans HD8.out hB9)
    have HT9 := Lib.hid (HT8.out.mono hB9)
    have HTB9 := Lib.hid (HTB8.out.mono hB9)
    have HNA9 := Lib.hid (HNA8.out.mono hB9)
    have HLA9 := Lib.hid (HLA8.out.mono hB9)
    have HQ9 := Lib.hid (HQ8.out.mono hB9)
    have HRL9 := Lib.hid (HRL8.out.mono hB9)
    have T9 := Lib.hid (T8.out.mono hB9)
    have O9 := Lib.hid (O8.out.mono hB9)
    clear hb hB9 HD8 HT8 HTB8 HNA8 HLA8 HQ8 HRL8 T8 T_0 T_1 T_2 T_3 T_4 T_5 T_6 T_7 T_8 T_l O8 O_0 O_1 O_2 O_3 O_4 O_5 O_6 O_7 O_8 O_l
    obtain ⟨T_0, T_1, T_2, T_3, T_4, T_5, T_6, T_7, T_8, T_l⟩ := T9.out.c9
    obtain ⟨O_0, O_1, O_2, O_3, O_4, O_5, O_6, O_7, O_8, O_l⟩ := O9.out.c9
    go_wp2_with fail
    go_ret
    exact ⟨rfl, HD9.out⟩
end Go.Proofs.YthnojgdckkdcgaaGreatDoor

