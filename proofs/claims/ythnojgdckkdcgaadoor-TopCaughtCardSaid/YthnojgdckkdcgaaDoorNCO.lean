/- Parts joined: what all claims of this seat need. -/
import Derived.Test.YthnojgdckkdcgaaDoorNCN
import Derived.Test.YthnojgdckkdcgaaDoorNCC
import Derived.Test.YthnojgdckkdcgaaDoorNCG
set_option linter.unusedSimpArgs false
set_option linter.unusedVariables false
namespace Go.Proofs.YthnojgdckkdcgaaDoor
open Go.RowKit Go.Sort
/-- a goal that no step of a walk opens -/
structure HaltD (p : Prop) : Prop where
  out : p
theorem haltD_store {P : Program} {ops : Array Oper} {Q : Exit → Act → World → Prop} {rest : List Oper} {a : Act} {w : World} {d : Option Tmp} {t : TypeId} {p v : Operand} {ty : TypeId} {g : Option (Nat × Bool)} {at_ : String} {af : Array Edge} (h : HaltD (wpList P ops Q (Oper.mk d (Op.store t p v) ty at_ af g :: rest) a w)) : wpList P ops Q (Oper.mk d (Op.store t p v) ty at_ af g :: rest) a w := h.out
theorem pntL_put {f g : Nat → Pnt} {n k : Nat} (hk : k < n) (he : ∀ j, j ≠ k → g j = f j) : (((pntL f n).set (k * 3) (.int .i64 (g k).lo)).set (k * 3 + 1) (.int .i64 (g k).hi)).set (k * 3 + 2) (.int .i64 (g k).cost) = pntL g n := by
  refine List.ext_getElem? fun i => ?_
  rw [List.getElem?_set, List.getElem?_set, List.getElem?_set]
  simp only [List.length_set, pntL_len]
  rcases Nat.lt_or_ge i (n * 3) with h | h
  · obtain ⟨a, b, hb, rfl⟩ : ∃ a b, b < 3 ∧ i = a * 3 + b := ⟨i / 3, i % 3, Nat.mod_lt _ (by decide), by omega⟩
    have ha : a < n := by omega
    rw [pntL_get g ha b hb]
    by_cases e : a = k
    · subst e
      match b, hb with
      | 0, _ => rw [if_neg (by omega), if_neg (by omega), if_pos (by omega), if_pos (by omega)]; rfl
      | 1, _ => rw [if_neg (by omega), if_pos (by omega), if_pos (by omega)]; rfl
      | 2, _ => rw [if_pos (by omega), if_pos (by omega)]; rfl
    · rw [if_neg (by omega), if_neg (by omega), if_neg (by omega), pntL_get f ha b hb, he a e]
  · rw [if_neg (by omega), if_neg (by omega), if_neg (by omega), List.getElem?_eq_none (by rw [pntL_len]; exact h), List.getElem?_eq_none (by rw [pntL_len]; exact h)]
/-- each of the first k points costs 1 -/
def oneC (d : Dk) (k : Nat) : Nat → Pnt := fun j => if j < k then { d.pt j with cost := 1 } else d.pt j
theorem oneC_at (d : Dk) (k : Nat) : oneC d k k = d.pt k := if_neg (Nat.lt_irrefl k)
/-- the line each of whose points costs 1 -/
def Dk.one (d : Dk) : Dk := { d with pt := fun i => { d.pt i with cost := 1 } }
theorem one_tab (d : Dk) : tabAll d.one.cost d.one.no = tab1 d.no := rfl
theorem one_ok {d : Dk} (h : d.Ok) : d.one.Ok := ⟨h.no, h.np, h.odd, fun i hi => by
  obtain ⟨a, b, c, _⟩ := h.pt i hi
  exact ⟨a, b, c, by show (0 : Int) ≤ 1; decide, by show (1 : Int) ≤ 20; decide⟩⟩
structure LinAt (w : World) (base gp go c c' : Nat) (d : Dk) (f : Nat → Pnt) : Prop where
  pts : w.ownsRow base 35 3 (.slice (some ⟨gp, 0, none⟩) d.np c) d.np (pntL f d.np)
  odds : w.ownsRow base 3 1 (.slice (some ⟨go, 0, none⟩) d.no c') d.no (intL d.odd d.no)
theorem LinAt.mono {w w' : World} {base gp go c c' : Nat} {d : Dk} {f : Nat → Pnt} (h : LinAt w base gp go c c' d f) (hb : Below w.heap.size w w') : LinAt w' base gp go c c' d f := ⟨owns_below h.pts hb, owns_below h.odds hb⟩
def set3 (w : World) (g j : Nat) (c0 c1 c2 : Value) : World := ((w.setCell ⟨g, j, none⟩ c0).setCell ⟨g, j + 1, none⟩ c1).setCell ⟨g, j + 2, none⟩ c2
theorem LinAt.cell {w : World} {base gp go c c' : Nat} {d : Dk} {f : Nat → Pnt} (h : LinAt w base gp go c c' d f) {k : Nat} (hk : k < d.np) : base ≤ gp ∧ ∃ cur, TBox w gp 35 cur ∧ w.cell? ⟨gp, k * 3, none⟩ = some (.int .i64 (f k).lo) ∧ w.cell? ⟨gp, k * 3 + 1, none⟩ = some (.int .i64 (f k).hi) ∧ w.cell? ⟨gp, k * 3 + 2, none⟩ = some (.int .i64 (f k).cost) := by
  obtain ⟨hb, cur, htb, e⟩ := owns_box h.pts
  have hg : ∀ j, j < 3 → cur[k * 3 + j]? = [Value.int .i64 (f k).lo, .int .i64 (f k).hi, .int .i64 (f k).cost][j]? := fun j hj => by
    have h2 := pntL_get f hk j hj
    rw [← e, List.getElem?_take, if_pos (by omega), Array.getElem?_toList] at h2
    exact h2
  exact ⟨hb, cur, htb, (htb.cell _).trans (by simpa using hg 0 (by decide)), (htb.cell _).trans (by simpa using hg 1 (by decide)), (htb.cell _).trans (by simpa using hg 2 (by decide))⟩
theorem LinAt.step {w : World} {base gp go c c' : Nat} {d : Dk} {k : Nat} (h : LinAt w base gp go c c' d (oneC d k)) (hk : k < d.np) : LinAt (set3 w gp (k * 3) (.int .i64 (d.pt k).lo) (.int .i64 (d.pt k).hi) (.int .i64 1)) base gp go c c' d (oneC d (k + 1)) := by
  obtain ⟨_, cur, htb, _⟩ := owns_box h.pts
  have h1 := owns_put (owns_put (owns_put h.pts (k * 3) (.int .i64 (d.pt k).lo)) (k * 3 + 1) (.int .i64 (d.pt k).hi)) (k * 3 + 2) (.int .i64 1)
  have e : oneC d (k + 1) k = { d.pt k with cost := 1 } := if_pos (Nat.lt_succ_self k)
  have h2 := pntL_put (f := oneC d k) (g := oneC d (k + 1)) hk (fun j hj => by
    unfold oneC
    by_cases h : j < k
    · rw [if_pos h, if_pos (by omega)]
    · rw [if_neg h, if_neg (by omega)])
  rw [e] at h2
  rw [h2] at h1
  exact ⟨h1, owns_setT (owns_setT (owns_setT h.odds htb (by decide) _ _) (htb.set _ _) (by decide) _ _) ((htb.set _ _).set _ _) (by decide) _ _⟩
theorem LinAt.done {w : World} {base gp go c c' : Nat} {d : Dk} (h : LinAt w base gp go c c' d (oneC d d.np)) : DAt w (some ⟨gp, 0, none⟩) (some ⟨go, 0, none⟩) d.one := by
  obtain ⟨A, c1, e1, h1⟩ := RowK.own h.pts
  obtain ⟨A', c2, e2, h2⟩ := RowK.own h.odds
  injection e1 with e1 _ _
  injection e2 with e2 _ _
  subst e1 e2
  refine ⟨?_, intsAt_row.2 h2.row⟩
  rcases pntsAt_row h1.row with h0 | ⟨b, o, e, hlt, hc⟩
  · exact .inl h0
  · refine .inr ⟨b, o, e, hlt, fun i hi => ?_⟩
    have := hc i hi
    rw [show oneC d d.np i = d.one.pt i from if_pos hi] at this
    exact this
set_option maxHeartbeats 40000000 in
set_option maxRecDepth 100000 in
theorem topCaught_any (Ap Ao : Option Addr) (cp co : Nat) (d : Dk) (sn : Int) (w : World) (hf : d.Fits) (hT : DAt w Ap Ao d) (hB : TabAt w) :
    Calls Tryd.prog 3 #[.agg #[.slice Ap d.np cp, .slice Ao d.no co], .int .i64 sn] w fun e w' => e = .returned (.bool (true)) ∧ Below w.heap.size w w' := by
  have HD0 := Lib.hid (Below.refl w.heap.size w)
  have HFI := Lib.hid hf
  have HT0 := Lib.hid hT
  have HTB0 := Lib.hid hB
  clear hf hT hB
  go_enter Tryd.func3, Tryd.ntmps3
  go_wp2_with fail
  refine (farD_any Ap Ao cp co d _).mono ?_
  rintro e w1 ⟨⟨bf, rfl, hbf⟩, hb⟩
  have hB1 : Below w.heap.size w w1 := bTrans (bAlloc (Below.refl _ _) (.cells #[.slice Ap d.np cp, .slice Ao d.no co] 25)) hb
  have HD1 := Lib.hid (bTrans HD0.out hB1)
  have HT1 := Lib.hid (HT0.out.mono hB1)
  have HTB1 := Lib.hid (HTB0.out.mono hB1)
  have D1 := Lib.hid (show TBox w1 w.heap.size 25 #[.slice Ap d.np cp, .slice Ao d.no co] from by have := ((TBox.new w #[.slice Ap d.np cp, .slice Ao d.no co] 25).mono (Below.refl _ _)).mono hb; simpa using this)
  clear hb hB1 HD0 HT0 HTB0
  obtain ⟨D_0, D_1, D_l⟩ := D1.out.c2
  cases bf
  case true =>
    go_wp2_with fail
    refine (caught_any _ HTB1.out).mono ?_
    rintro e w2 ⟨rfl, hb⟩
    have hB2 : Below w1.heap.size w1 w2 := bTrans (Below.refl _ _) hb
    have HD2 := Lib.hid (bTrans HD1.out hB2)
    have HT2 := Lib.hid (HT1.out.mono hB2)
    have HTB2 := Lib.hid (HTB1.out.mono hB2)
    have D2 := Lib.hid (D1.out.mono hB2)
    clear hb hB2 HD1 HT1 HTB1 D1 D_0 D_1 D_l
    obtain ⟨D_0, D_1, D_l⟩ := D2.out.c2
    go_wp2_with fail
    go_ret
    exact ⟨rfl, HD2.out⟩
  obtain ⟨h40, h40b⟩ := hbf rfl
  have H40 := Lib.hid h40
  have H40B := Lib.hid h40b
  clear hbf h40 h40b
  go_wp2_with fail
  refine (checkR6_any Ap Ao cp co d _ H40.out H40B.out HT1.out).mono ?_
  rintro e w2 ⟨⟨c9, rfl, hc9⟩, hb⟩
  have hB2 : Below w1.heap.size w1 w2 := bTrans (Below.refl _ _) hb
  have HD2 := Lib.hid (bTrans HD1.out hB2)
  have HT2 := Lib.hid (HT1.out.mono hB2)
  have HTB2 := Lib.hid (HTB1.out.mono hB2)
  have D2 := Lib.hid (D1.out.mono hB2)
  clear hb hB2 HD1 HT1 HTB1 D1 D_0 D_1 D_l
  obtain ⟨D_0, D_1, D_l⟩ := D2.out.c2
  by_cases hz9 : c9 = 0
  case neg =>
    have q1 : (c9 != 0) = true := by simp; exact hz9
    clear hc9
    go_wp2_with fail
    refine (caught_any _ HTB2.out).mono ?_
    rintro e w3 ⟨rfl, hb⟩
    have hB3 : Below w2.heap.size w2 w3 := bTrans (Below.refl _ _) hb
    have HD3 := Lib.hid (bTrans HD2.out hB3)
    have HT3 := Lib.hid (HT2.out.mono hB3)
    have HTB3 := Lib.hid (HTB2.out.mono hB3)
    have D3 := Lib.hid (D2.out.mono hB3)
    clear hb hB3 HD2 HT2 HTB2 D2 D_0 D_1 D_l
    obtain ⟨D_0, D_1, D_l⟩ := D3.out.c2
    go_wp2_with fail
    go_ret
    exact ⟨rfl, HD3.out⟩
  subst hz9
  have HOK := Lib.hid (hc9 rfl)
  clear hc9
  by_cases hm6 : 6 < d.no
  case pos =>
    have q1 : (d.no : Int) > 6 := by omega
    have q2 : decide ((d.no : Int) > 6) = true := by simp; omega
    go_wp2_with fail
    refine (caught_any _ HTB2.out).mono ?_
    rintro e w3 ⟨rfl, hb⟩
    have hB3 : Below w2.heap.size w2 w3 := bTrans (Below.refl _ _) hb
    have HD3 := Lib.hid (bTrans HD2.out hB3)
    have HT3 := Lib.hid (HT2.out.mono hB3)
    have HTB3 := Lib.hid (HTB2.out.mono hB3)
    have D3 := Lib.hid (D2.out.mono hB3)
    clear hb hB3 HD2 HT2 HTB2 D2 D_0 D_1 D_l
    obtain ⟨D_0, D_1, D_l⟩ := D3.out.c2
    go_wp2_with fail
    go_ret
    exact ⟨rfl, HD3.out⟩
  have H6 := Lib.hid (show d.no ≤ 6 by omega)
  have q1 : ¬ (d.no : Int) > 6 := by omega
  have q2 : decide ((d.no : Int) > 6) = false := by simp; omega
  have q3 : decide ((6 : Int) < (d.no : Int)) = false := by simp; omega
  go_wp2_with fail
  clear q1 q2 q3 hm6
  obtain ⟨bb, hbb⟩ : ∃ b, inR sn 0 ((d.no : Int) - 1) = b := ⟨_, rfl⟩
  refine (hbb ▸ isSR_any Ap Ao cp co d sn _ H40B.out).mono ?_
  rintro e w3 ⟨rfl, hb⟩
  have hB3 : Below w2.heap.size w2 w3 := bTrans (Below.refl _ _) hb
  have HD3 := Lib.hid (bTrans HD2.out hB3)
  have HT3 := Lib.hid (HT2.out.mono hB3)
  have HTB3 := Lib.hid (HTB2.out.mono hB3)
  have D3 := Lib.hid (D2.out.mono hB3)
  clear hb hB3 HD2 HT2 HTB2 D2 D_0 D_1 D_l
  obtain ⟨D_0, D_1, D_l⟩ := D3.out.c2
  cases bb
  case false =>
    clear hbb
    go_wp2_with fail
    refine (caught_any _ HTB3.out).mono ?_
    rintro e w4 ⟨rfl, hb⟩
    have hB4 : Below w3.heap.size w3 w4 := bTrans (Below.refl _ _) hb
    have HD4 := Lib.hid (bTrans HD3.out hB4)
    have HT4 := Lib.hid (HT3.out.mono hB4)
    have HTB4 := Lib.hid (HTB3.out.mono hB4)
    have D4 := Lib.hid (D3.out.mono hB4)
    clear hb hB4 HD3 HT3 HTB3 D3 D_0 D_1 D_l
    obtain ⟨D_0, D_1, D_l⟩ := D4.out.c2
    go_wp2_with fail
    go_ret
    exact ⟨rfl, HD4.out⟩
  have hn9 := inR_iff.1 hbb
  obtain ⟨i, rfl⟩ : ∃ i : Nat, sn = (i : Int) := ⟨sn.toNat, by omega⟩
  have HI := Lib.hid (show i < d.no by omega)
  have H1 := Lib.hid (show 1 ≤ d.no by omega)
  have HTH := Lib.hid (th_facts H1.out H6.out)
  clear hn9 hbb
  go_wp2_with fail
  refine (copyD_any Ap Ao cp co d _ HFI.out HT3.out).mono ?_
  rintro e w4 ⟨ho, hb⟩
  have hcb := hb
  obtain ⟨gp, go, c, c', rfl, ho1, ho2⟩ := ho
  have hB4 : Below w3.heap.size w3 w4 := bTrans (Below.refl _ _) hb
  have HD4 := Lib.hid (bTrans HD3.out hB4)
  have HT4 := Lib.hid (HT3.out.mono hB4)
  have HTB4 := Lib.hid (HTB3.out.mono hB4)
  have HLN4 := Lib.hid ((show LinAt w4 w3.heap.size gp go c c' d (oneC d 0) from ⟨ho1, ho2⟩))
  have HRB4 := Lib.hid ((show Upto w3 w4 from hcb))
  have D4 := Lib.hid (D3.out.mono hB4)
  clear hb hB4 D_0 D_1 D_l
  obtain ⟨D_0, D_1, D_l⟩ := D4.out.c2
  clear ho1 ho2 hcb
  go_wp2_with fail
  clear D_0 D_1 D_l
  go_loopw [7] (fun s wr => ∃ k : Nat, k ≤ d.np ∧ s = .int .i64 (k : Int) ∧ LinAt wr w3.heap.size gp go c c' d (oneC d k) ∧ TBox wr w4.heap.size 25 #[.slice (some ⟨gp, 0, none⟩) d.np c, .slice (some ⟨go, 0, none⟩) d.no c'] ∧ Below w3.heap.size w3 wr) (fun s _ => d.np - (intOf s).toNat)
  case atStart => exact ⟨0, Nat.zero_le _, rfl, (HLN4.out.mono (bAlloc (Below.refl _ _) (.cells #[.slice (some ⟨gp, 0, none⟩) d.np c, .slice (some ⟨go, 0, none⟩) d.no c'] 25))), TBox.new _ _ _, bTrans HRB4.out (bAlloc (Below.refl _ _) _)⟩
  case round =>
    obtain ⟨k, hk, rfl, hln, hu, hb⟩ := hrel
    have hrb := hb
    have hB5 : Below w3.heap.size w3 wr := bTrans (Below.refl _ _) hb
    have HD5 := Lib.hid (bTrans HD3.out hB5)
    have HT5 := Lib.hid (HT3.out.mono hB5)
    have HTB5 := Lib.hid (HTB3.out.mono hB5)
    have HLN5 := Lib.hid (hln)
    have HRB5 := Lib.hid ((show Upto w3 wr from hrb))
    have D5 := Lib.hid (D3.out.mono hB5)
    clear hb hB5
    obtain ⟨D_0, D_1, D_l⟩ := D5.out.c2
    clear hln hrb
    have U5 := Lib.hid hu
    clear hu
    obtain ⟨U_0, U_1, U_l⟩ := U5.out.c2
    by_cases hlt : k < d.np
    case pos =>
      obtain ⟨x, hx⟩ : ∃ x, d.pt k = x := ⟨_, rfl⟩
      have HX := Lib.hid hx
      obtain ⟨hg1, cur, htb, u0, u1, u2⟩ := HLN5.out.cell hlt
      rw [oneC_at, hx] at u0 u1 u2
      have HG1 := Lib.hid hg1
      have HGT := Lib.hid htb
      have hgl := htb.lt
      have z0 := htb.frozen (k * 3)
      have z1 := htb.frozen (k * 3 + 1)
      have z2 := htb.frozen (k * 3 + 2)
      have k1 : (k : Int) < (d.np : Int) := by omega
      have k0 : (0 : Int) ≤ (k : Int) := by omega
      have k100 : k < 100 := by have := HOK.out.np; have := HOK.out.no; omega
      clear hg1 htb hx
      go_wp2_with (with_reducible refine haltD_store (p := Operand.tmp 64) ?_)
      refine HaltD.mk ?_
      obtain ⟨w20, hw20⟩ : ∃ y, set3 (wr.alloc (.cells #[.int .i64 x.lo, .int .i64 x.hi, .int .i64 1] 35)) gp (k * 3) (.int .i64 x.lo) (.int .i64 x.hi) (.int .i64 1) = y := ⟨_, rfl⟩
      have hbs : Below wr.heap.size wr (wr.alloc (.cells #[.int .i64 x.lo, .int .i64 x.hi, .int .i64 1] 35)) := bAlloc (Below.refl _ _) _
      have hl20 : LinAt w20 w3.heap.size gp go c c' d (oneC d (k + 1)) := by
        rw [← hw20]
        have h := (HLN5.out.mono hbs).step hlt
        rw [HX.out] at h
        exact h
      have hu20 : TBox w20 w4.heap.size 25 #[.slice (some ⟨gp, 0, none⟩) d.np c, .slice (some ⟨go, 0, none⟩) d.no c'] := by
        rw [← hw20]
        have hne : gp ≠ w4.heap.size := fun e => by
          have h1 := HGT.out
          rw [e] at h1
          have h2 : wr.heap[w4.heap.size]? = some (Obj.cells #[.slice (some ⟨gp, 0, none⟩) d.np c, .slice (some ⟨go, 0, none⟩) d.no c'] 25 (0, 0)) := U5.out
          rw [show wr.heap[w4.heap.size]? = some (Obj.cells cur 35 (0, 0)) from h1] at h2
          injection h2 with h2
          injection h2 with _ h2 _
          exact absurd h2 (by decide)
        exact (((U5.out.mono hbs).other hne _ _).other hne _ _).other hne _ _
      have hb20 : Below w3.heap.size w3 w20 := by
        rw [← hw20]
        exact Below.setCell (p := ⟨gp, _, none⟩) (Below.setCell (p := ⟨gp, _, none⟩) (Below.setCell (p := ⟨gp, _, none⟩) (bTrans HRB5.out hbs) HG1.out _) HG1.out _) HG1.out _
      have HW20 := Lib.hid hw20
      have HL20 := Lib.hid hl20
      have HU20 := Lib.hid hu20
      have HB20 := Lib.hid hb20
      clear hw20 hl20 hu20 hb20 hbs
      refine wpList_skip rfl rfl (w'' := w20) (by rw [← HW20.out]; unfold set3; go_simp) ?_
      go_wp2_with fail
      go_roundw
      case rel =>
        first
        | exact ⟨k + 1, by omega, by go_num, HL20.out, HU20.out, HB20.out⟩
        | ((repeat apply Exists.intro)
           refine ⟨⟨k + 1, by omega, ?_, HL20.out, HU20.out, HB20.out⟩, rfl⟩
           go_num)
      case measure => simp [intOf]; omega
    obtain rfl : k = d.np := by omega
    have HU5 := Lib.hid HLN5.out.done
    clear HLN5
    go_wp2_with fail
    refine (thieves_any d.no _ H6.out).mono ?_
    rintro e w6 ⟨⟨Tw, tw, rfl, hth⟩, hb⟩
    have hB6 : Below wr.heap.size wr w6 := bTrans (Below.refl _ _) hb
    have HD6 := Lib.hid (bTrans HD5.out hB6)
    have HT6 := Lib.hid (HT5.out.mono hB6)
    have HTB6 := Lib.hid (HTB5.out.mono hB6)
    have HRB6 := Lib.hid (HRB5.out.mono hB6)
    have HU6 := Lib.hid (HU5.out.mono hB6)
    have HQ6 := Lib.hid (hth)
    have D6 := Lib.hid (D5.out.mono hB6)
    have U6 := Lib.hid (U5.out.mono hB6)
    clear hb hB6 HD5 HT5 HTB5 HRB5 HU5 D5 D_0 D_1 D_l U5 U_0 U_1 U_l
    obtain ⟨D_0, D_1, D_l⟩ := D6.out.c2
    obtain ⟨U_0, U_1, U_l⟩ := U6.out.c2
    clear hth
    go_wp2_with fail
    refine ((by have := refCheck5 Tw none tw 0 (thT d.no) (w6.alloc (.cells #[.int .i64 4, .slice Tw d.no tw, .slice none 0 0] 39)) (by show d.no ≤ _; have := H6.out; omega) (by show (0 : Nat) ≤ _; decide) (HQ6.out.mono (bAlloc (Below.refl _ _) (.cells #[.int .i64 4, .slice Tw d.no tw, .slice none 0 0] 39))); rw [Qt.err_ok (thT_ok H1.out H6.out)] at this; exact this : Calls Tryd.prog 10 #[.agg #[.int .i64 4, .slice Tw d.no tw, .slice none 0 0]] (w6.alloc (.cells #[.int .i64 4, .slice Tw d.no tw, .slice none 0 0] 39)) fun e w' => e = .returned (.int .i64 0) ∧ Below (w6.alloc (.cells #[.int .i64 4, .slice Tw d.no tw, .slice none 0 0] 39)).heap.size (w6.alloc (.cells #[.int .i64 4, .slice Tw d.no tw, .slice none 0 0] 39)) w')).mono ?_
    rintro e w7 ⟨rfl, hb⟩
    have hB7 : Below w6.heap.size w6 w7 := bTrans (bAlloc (Below.refl _ _) (.cells #[.int .i64 4, .slice Tw d.no tw, .slice none 0 0] 39)) hb
    have HD7 := Lib.hid (bTrans HD6.out hB7)
    have HT7 := Lib.hid (HT6.out.mono hB7)
    have HTB7 := Lib.hid (HTB6.out.mono hB7)
    have HRB7 := Lib.hid (HRB6.out.mono hB7)
    have HU7 := Lib.hid (HU6.out.mono hB7)
    have HQ7 := Lib.hid (HQ6.out.mono hB7)
    have D7 := Lib.hid (D6.out.mono hB7)
    have U7 := Lib.hid (U6.out.mono hB7)
    have H7 := Lib.hid (show TBox w7 w6.heap.size 39 #[.int .i64 4, .slice Tw d.no tw, .slice none 0 0] from by have := ((TBox.new w6 #[.int .i64 4, .slice Tw d.no tw, .slice none 0 0] 39).mono (Below.refl _ _)).mono hb; simpa using this)
    clear hb hB7 HD6 HT6 HTB6 HRB6 HU6 HQ6 D6 D_0 D_1 D_l U6 U_0 U_1 U_l
    obtain ⟨D_0, D_1, D_l⟩ := D7.out.c2
    obtain ⟨U_0, U_1, U_l⟩ := U7.out.c2
    obtain ⟨H_0, H_1, H_2, H_l⟩ := H7.out.c3
    go_wp2_with fail
    obtain ⟨W9, hW9⟩ : ∃ y, (tab1 d.no 0 d.no).1 = y := ⟨_, rfl⟩
    have HW9 := Lib.hid hW9
    have ww0 : 0 ≤ W9 := hW9 ▸ HTH.out.w0
    have ww1 : W9 ≤ d.no := hW9 ▸ HTH.out.w1
    have ww2 : ¬ W9 < 0 := by omega
    have ww3 : decide (W9 < 0) = false := by simp; omega
    have ww4 : ¬ W9 > (d.no : Int) := by omega
    have ww5 : decide (W9 > (d.no : Int)) = false := by simp; omega
    have ww6 : decide ((d.no : Int) < W9) = false := by simp; omega
    obtain ⟨n9, hn9⟩ : ∃ y, pathN (tab1 d.no) i d.no 0 d.no = y := ⟨_, rfl⟩
    have HN9 := Lib.hid hn9
    have hp9 : (n9 : Int) ≤ W9 := by rw [← hn9, ← hW9]; exact HTH.out.path i HI.out
    have ww7 : ¬ (n9 : Int) > W9 := by omega
    have ww8 : decide ((n9 : Int) > W9) = false := by simp; omega
    have ww9 : decide (W9 < (n9 : Int)) = false := by simp; omega
    obtain ⟨z9, hz9⟩ : ∃ y, d.no - 1 = y := ⟨_, rfl⟩
    have HZ9 := Lib.hid hz9
    have hw9 : IntKind.i64.wrap ((d.no : Int) - 1) = (z9 : Int) := by rw [← hz9, Int.ofNat_sub H1.out]; have := H6.out; exact IntWalk.i64_in _ (by omega)
    obtain ⟨FL, hFL⟩ : ∃ y, (thT d.no).fewest (thT d.no).leftL = y := ⟨_, rfl⟩
    have HFL := Lib.hid hFL
    have HFN := Lib.hid (show FL.length = z9 by rw [← hFL, ← hz9]; exact HTH.out.few)
    clear hW9 hn9 hp9 hz9 hFL
    refine ((by have := worstD_any (some ⟨gp, 0, none⟩) (some ⟨go, 0, none⟩) c c' d.one 0 d.no w7 (one_ok HOK.out) HU7.out H1.out (Nat.le_refl _); rw [one_tab, HW9.out] at this; exact this : Calls Tryd.prog 11 #[.agg #[.slice (some ⟨gp, 0, none⟩) d.np c, .slice (some ⟨go, 0, none⟩) d.no c'], .int .i64 0, .int .i64 (d.no : Int)] w7 fun e w' => e = .returned (.tuple #[.int .i64 W9, .int .i64 0]) ∧ Below w7.heap.size w7 w')).mono ?_
    rintro e w8 ⟨rfl, hb⟩
    have hB8 : Below w7.heap.size w7 w8 := bTrans (Below.refl _ _) hb
    have HD8 := Lib.hid (bTrans HD7.out hB8)
    have HT8 := Lib.hid (HT7.out.mono hB8)
    have HTB8 := Lib.hid (HTB7.out.mono hB8)
    have HRB8 := Lib.hid (HRB7.out.mono hB8)
    have HU8 := Lib.hid (HU7.out.mono hB8)
    have HQ8 := Lib.hid (HQ7.out.mono hB8)
    have D8 := Lib.hid (D7.out.mono hB8)
    have U8 := Lib.hid (U7.out.mono hB8)
    have H8 := Lib.hid (H7.out.mono hB8)
    clear hb hB8 HD7 HT7 HTB7 HRB7 HU7 HQ7 D7 D_0 D_1 D_l U7 U_0 U_1 U_l H7 H_0 H_1 H_2 H_l
    obtain ⟨D_0, D_1, D_l⟩ := D8.out.c2
    obtain ⟨U_0, U_1, U_l⟩ := U8.out.c2
    obtain ⟨H_0, H_1, H_2, H_l⟩ := H8.out.c3
    go_wp2_with fail
    refine ((by have := depthQ_any Tw none tw 0 (thT d.no) w8 (thT_small H6.out) HQ8.out HTB8.out; rw [HTH.out.know H1.out H6.out, HTH.out.depthOut H1.out H6.out, HW9.out] at this; exact this : Calls Tryd.prog 12 #[.agg #[.int .i64 4, .slice Tw d.no tw, .slice none 0 0]] w8 fun e w' => e = .returned (.tuple #[.int .i64 W9, .int .i64 0]) ∧ Below w8.heap.size w8 w')).mono ?_
    rintro e w9 ⟨rfl, hb⟩
    have hB9 : Below w8.heap.size w8 w9 := bTrans (Below.refl _ _) hb
    have HD9 := Lib.hid (bTrans HD8.out hB9)
    have HT9 := Lib.hid (HT8.out.mono hB9)
    have HTB9 := Lib.hid (HTB8.out.mono hB9)
    have HRB9 := Lib.hid (HRB8.out.mono hB9)
    have HU9 := Lib.hid (HU8.out.mono hB9)
    have HQ9 := Lib.hid (HQ8.out.mono hB9)
    have D9 := Lib.hid (D8.out.mono hB9)
    have U9 := Lib.hid (U8.out.mono hB9)
    have H9 := Lib.hid (H8.out.mono hB9)
    clear hb hB9 HD8 HT8 HTB8 HRB8 HU8 HQ8 D8 D_0 D_1 D_l U8 U_0 U_1 U_l H8 H_0 H_1 H_2 H_l
    obtain ⟨D_0, D_1, D_l⟩ := D9.out.c2
    obtain ⟨U_0, U_1, U_l⟩ := U9.out.c2
    obtain ⟨H_0, H_1, H_2, H_l⟩ := H9.out.c3
    go_wp2_with fail
    refine ((by have := pathD_any (some ⟨gp, 0, none⟩) (some ⟨go, 0, none⟩) c c' d.one i w9 (one_ok HOK.out) HU9.out HI.out (by rw [one_tab]; exact HTH.out.pts); rw [one_tab] at this; exact this : Calls Tryd.prog 13 #[.agg #[.slice (some ⟨gp, 0, none⟩) d.np c, .slice (some ⟨go, 0, none⟩) d.no c'], .int .i64 (i : Int)] w9 fun e w' => (∃ A c, e = .returned (.tuple #[.slice A (pathN (tab1 d.no) i d.no 0 d.no) c, .int .i64 0])) ∧ Below w9.heap.size w9 w')).mono ?_
    rintro e w10 ⟨⟨PA, pc, rfl⟩, hb⟩
    rw [HN9.out]
    have hB10 : Below w9.heap.size w9 w10 := bTrans (Below.refl _ _) hb
    have HD10 := Lib.hid (bTrans HD9.out hB10)
    have HT10 := Lib.hid (HT9.out.mono hB10)
    have HTB10 := Lib.hid (HTB9.out.mono hB10)
    have HRB10 := Lib.hid (HRB9.out.mono hB10)
    have HU10 := Lib.hid (HU9.out.mono hB10)
    have HQ10 := Lib.hid (HQ9.out.mono hB10)
    have D10 := Lib.hid (D9.out.mono hB10)
    have U10 := Lib.hid (U9.out.mono hB10)
    have H10 := Lib.hid (H9.out.mono hB10)
    clear hb hB10 HD9 HT9 HTB9 HRB9 HU9 HQ9 D9 D_0 D_1 D_l U9 U_0 U_1 U_l H9 H_0 H_1 H_2 H_l
    obtain ⟨D_0, D_1, D_l⟩ := D10.out.c2
    obtain ⟨U_0, U_1, U_l⟩ := U10.out.c2
    obtain ⟨H_0, H_1, H_2, H_l⟩ := H10.out.c3
    go_wp2_with fail
    refine ((by have := fewestQ_any Tw none tw 0 (thT d.no) w10 (thT_small H6.out) HQ10.out HTB10.out; rw [HTH.out.know H1.out H6.out, HFL.out] at this; exact this : Calls Tryd.prog 14 #[.agg #[.int .i64 4, .slice Tw d.no tw, .slice none 0 0]] w10 fun e w' => LstOut w' 0 FL e ∧ Below w10.heap.size w10 w')).mono ?_
    rintro e w11 ⟨ho, hb⟩
    obtain ⟨FA, fc, rfl, hfl⟩ := ho.1 rfl
    rw [HFN.out]
    have hB11 : Below w10.heap.size w10 w11 := bTrans (Below.refl _ _) hb
    have HD11 := Lib.hid (bTrans HD10.out hB11)
    have HT11 := Lib.hid (HT10.out.mono hB11)
    have HTB11 := Lib.hid (HTB10.out.mono hB11)
    have HRB11 := Lib.hid (HRB10.out.mono hB11)
    have HU11 := Lib.hid (HU10.out.mono hB11)
    have HQ11 := Lib.hid (HQ10.out.mono hB11)
    have D11 := Lib.hid (D10.out.mono hB11)
    have U11 := Lib.hid (U10.out.mono hB11)
    have H11 := Lib.hid (H10.out.mono hB11)
    clear hb hB11 HD10 HT10 HTB10 HRB10 HU10 HQ10 D10 D_0 D_1 D_l U10 U_0 U_1 U_l H10 H_0 H_1 H_2 H_l
    obtain ⟨D_0, D_1, D_l⟩ := D11.out.c2
    obtain ⟨U_0, U_1, U_l⟩ := U11.out.c2
    obtain ⟨H_0, H_1, H_2, H_l⟩ := H11.out.c3
    go_wp2_with fail
    clear ww0 ww1 ww2 ww3 ww4 ww5 ww6 ww7 ww8 ww9
    obtain ⟨nb, na, ne, hne, hno, hway⟩ : ∃ (a b : Nat) (e : Int), (thT d.no).nextErr = e ∧ (thT d.no).nextOut = (a, b) ∧ ((d.no = 1 ∧ e = 3) ∨ (2 ≤ d.no ∧ e = 0 ∧ a < 4 ∧ b < 4 ∧ 4 * a + b + 1 ≤ d.no - 1 ∧ (tab1 d.no 0 d.no).2 = ((4 * a + b + 1 : Nat) : Int) ∧ max (tab1 d.no 0 (4 * a + b + 1)).1 (tab1 d.no (4 * a + b + 1) d.no).1 = (tab1 d.no 0 d.no).1 - 1)) := by
      rcases Nat.lt_or_ge d.no 2 with h | h
      · obtain ⟨a, b⟩ := HTH.out.next1 (by have := H1.out; omega)
        exact ⟨0, 0, 3, a, b, .inl ⟨by have := H1.out; omega, rfl⟩⟩
      · obtain ⟨a, x, y, b, c1, c2, c3, c4, c5⟩ := HTH.out.next2 h H6.out
        exact ⟨x, y, 0, a, b, .inr ⟨h, rfl, c1, c2, c3, c4, c5⟩⟩
    have HNE := Lib.hid hne
    have HNO := Lib.hid hno
    have HWAY := Lib.hid hway
    clear hne hno hway
    refine ((by have := nextQ_any Tw none tw 0 (thT d.no) w11 (thT_small H6.out) HQ11.out HTB11.out; rw [HNE.out, HNO.out] at this; exact this : Calls Tryd.prog 15 #[.agg #[.int .i64 4, .slice Tw d.no tw, .slice none 0 0]] w11 fun e w' => e = .returned (.tuple #[.agg #[.int .i64 (nb : Int), .int .i64 (na : Int)], .int .i64 ne]) ∧ Below w11.heap.size w11 w')).mono ?_
    rintro e w12 ⟨rfl, hb⟩
    have hB12 : Below w11.heap.size w11 w12 := bTrans (Below.refl _ _) hb
    have HD12 := Lib.hid (bTrans HD11.out hB12)
    have HT12 := Lib.hid (HT11.out.mono hB12)
    have HTB12 := Lib.hid (HTB11.out.mono hB12)
    have HRB12 := Lib.hid (HRB11.out.mono hB12)
    have HU12 := Lib.hid (HU11.out.mono hB12)
    have HQ12 := Lib.hid (HQ11.out.mono hB12)
    have D12 := Lib.hid (D11.out.mono hB12)
    have U12 := Lib.hid (U11.out.mono hB12)
    have H12 := Lib.hid (H11.out.mono hB12)
    clear hb hB12 HD11 HT11 HTB11 HRB11 HU11 HQ11 D11 D_0 D_1 D_l U11 U_0 U_1 U_l H11 H_0 H_1 H_2 H_l
    obtain ⟨D_0, D_1, D_l⟩ := D12.out.c2
    obtain ⟨U_0, U_1, U_l⟩ := U12.out.c2
    obtain ⟨H_0, H_1, H_2, H_l⟩ := H12.out.c3
    rcases HWAY.out with ⟨h1, rfl⟩ | ⟨h2, rfl, ha, hb4, hp1, hp2, hp3⟩
    · have q1 : ((d.no : Int) == 1) = true := by simp; omega
      have q2 : (d.no == 1) = true := by simp; omega
      go_wp2_with fail
      refine (caught_any _ (HTB12.out.mono (bAlloc (Below.refl _ _) (.cells #[.int .i64 (nb : Int), .int .i64 (na : Int)] 51)))).mono ?_
      rintro e w13 ⟨rfl, hb⟩
      have hB13 : Below w12.heap.size w12 w13 := bTrans (bAlloc (Below.refl _ _) (.cells #[.int .i64 (nb : Int), .int .i64 (na : Int)] 51)) hb
      have HD13 := Lib.hid (bTrans HD12.out hB13)
      have HT13 := Lib.hid (HT12.out.mono hB13)
      have HTB13 := Lib.hid (HTB12.out.mono hB13)
      have HRB13 := Lib.hid (HRB12.out.mono hB13)
      have HU13 := Lib.hid (HU12.out.mono hB13)
      have HQ13 := Lib.hid (HQ12.out.mono hB13)
      have D13 := Lib.hid (D12.out.mono hB13)
      have U13 := Lib.hid (U12.out.mono hB13)
      have H13 := Lib.hid (H12.out.mono hB13)
      have X13 := Lib.hid (show TBox w13 w12.heap.size 51 #[.int .i64 (nb : Int), .int .i64 (na : Int)] from by have := ((TBox.new w12 #[.int .i64 (nb : Int), .int .i64 (na : Int)] 51).mono (Below.refl _ _)).mono hb; simpa using this)
      clear hb hB13 HD12 HT12 HTB12 HRB12 HU12 HQ12 D12 D_0 D_1 D_l U12 U_0 U_1 U_l H12 H_0 H_1 H_2 H_l
      obtain ⟨D_0, D_1, D_l⟩ := D13.out.c2
      obtain ⟨U_0, U_1, U_l⟩ := U13.out.c2
      obtain ⟨H_0, H_1, H_2, H_l⟩ := H13.out.c3
      obtain ⟨X_0, X_1, X_l⟩ := X13.out.c2
      go_wp2_with fail
      go_ret
      exact ⟨rfl, HD13.out⟩
    · obtain ⟨p1, hpp1⟩ : ∃ y, 4 * nb = y := ⟨_, rfl⟩
      obtain ⟨p2, hpp2⟩ : ∃ y, p1 + na = y := ⟨_, rfl⟩
      obtain ⟨p, hpp⟩ : ∃ y, p2 + 1 = y := ⟨_, rfl⟩
      have e1 : IntKind.i64.wrap (4 * (nb : Int)) = (p1 : Int) := by rw [← hpp1]; push_cast; exact IntWalk.i64_in _ (by omega)
      have e2 : IntKind.i64.wrap ((p1 : Int) + (na : Int)) = (p2 : Int) := by rw [← hpp2]; push_cast; exact IntWalk.i64_in _ (by omega)
      have e3 : IntKind.i64.wrap ((p2 : Int) + 1) = (p : Int) := by rw [← hpp]; push_cast; exact IntWalk.i64_in _ (by omega)
      have hpe : 4 * nb + na + 1 = p := by omega
      rw [hpe] at hp1 hp2 hp3
      have HP1 := Lib.hid (show 1 ≤ p ∧ p < d.no by omega)
      have HP2 := Lib.hid hp2
      have HWI := Lib.hid (inR_t (by have := HZ9.out; omega) : inR (p : Int) 1 (z9 : Int) = true)
      have H2 := Lib.hid h2
      obtain ⟨u9, hu9⟩ : ∃ y, (tab1 d.no 0 p).1 = y := ⟨_, rfl⟩
      obtain ⟨v9, hv9⟩ : ∃ y, (tab1 d.no p d.no).1 = y := ⟨_, rfl⟩
      rw [hu9, hv9, HW9.out] at hp3
      have HU9 := Lib.hid hu9
      have HV9 := Lib.hid hv9
      obtain ⟨y9, hy9⟩ : ∃ y, W9 - 1 = y := ⟨_, rfl⟩
      have m1 : (if u9 < v9 then v9 else u9) = y9 := by rw [← hy9, ← hp3, Int.max_def]; split <;> split <;> omega
      have m2 : IntKind.i64.wrap (W9 - 1) = y9 := by
        rw [← hy9]
        have a1 := HTH.out.w0
        have a2 := HTH.out.w1
        rw [HW9.out] at a1 a2
        have := H6.out
        exact IntWalk.i64_in _ (by omega)
      have q1 : ((d.no : Int) == 1) = false := by simp; omega
      have q2 : (d.no == 1) = false := by simp; omega
      have q3 : ¬ (d.no : Int) = 1 := by omega
      have q4 : ¬ d.no = 1 := by omega
      clear h2 ha hb4 hp1 hp2 hp3 hpp1 hpp2 hpp hpe hu9 hv9 hy9
      go_wp2_with fail
      refine (within_b _ _ _ _ _ HWI.out).mono ?_
      rintro e w0 ⟨rfl, rfl⟩
      go_wp2_with fail
      refine ((by have := worstD_any (some ⟨gp, 0, none⟩) (some ⟨go, 0, none⟩) c c' d.one 0 p (w12.alloc (.cells #[.int .i64 (nb : Int), .int .i64 (na : Int)] 51)) (one_ok HOK.out) (HU12.out.mono (bAlloc (Below.refl _ _) (.cells #[.int .i64 (nb : Int), .int .i64 (na : Int)] 51))) HP1.out.1 (Nat.le_of_lt HP1.out.2); rw [one_tab, HU9.out] at this; exact this : Calls Tryd.prog 11 #[.agg #[.slice (some ⟨gp, 0, none⟩) d.np c, .slice (some ⟨go, 0, none⟩) d.no c'], .int .i64 0, .int .i64 (p : Int)] (w12.alloc (.cells #[.int .i64 (nb : Int), .int .i64 (na : Int)] 51)) fun e w' => e = .returned (.tuple #[.int .i64 u9, .int .i64 0]) ∧ Below (w12.alloc (.cells #[.int .i64 (nb : Int), .int .i64 (na : Int)] 51)).heap.size (w12.alloc (.cells #[.int .i64 (nb : Int), .int .i64 (na : Int)] 51)) w')).mono ?_
      rintro e w13 ⟨rfl, hb⟩
      have hB13 : Below w12.heap.size w12 w13 := bTrans (bAlloc (Below.refl _ _) (.cells #[.int .i64 (nb : Int), .int .i64 (na : Int)] 51)) hb
      have HD13 := Lib.hid (bTrans HD12.out hB13)
      have HT13 := Lib.hid (HT12.out.mono hB13)
      have HTB13 := Lib.hid (HTB12.out.mono hB13)
      have HRB13 := Lib.hid (HRB12.out.mono hB13)
      have HU13 := Lib.hid (HU12.out.mono hB13)
      have HQ13 := Lib.hid (HQ12.out.mono hB13)
      have D13 := Lib.hid (D12.out.mono hB13)
      have U13 := Lib.hid (U12.out.mono hB13)
      have H13 := Lib.hid (H12.out.mono hB13)
      have X13 := Lib.hid (show TBox w13 w12.heap.size 51 #[.int .i64 (nb : Int), .int .i64 (na : Int)] from by have := ((TBox.new w12 #[.int .i64 (nb : Int), .int .i64 (na : Int)] 51).mono (Below.refl _ _)).mono hb; simpa using this)
      clear hb hB13 HD12 HT12 HTB12 HRB12 HU12 HQ12 D12 D_0 D_1 D_l U12 U_0 U_1 U_l H12 H_0 H_1 H_2 H_l
      obtain ⟨D_0, D_1, D_l⟩ := D13.out.c2
      obtain ⟨U_0, U_1, U_l⟩ := U13.out.c2
      obtain ⟨H_0, H_1, H_2, H_l⟩ := H13.out.c3
      obtain ⟨X_0, X_1, X_l⟩ := X13.out.c2
      go_wp2_with fail
      refine ((by have := worstD_any (some ⟨gp, 0, none⟩) (some ⟨go, 0, none⟩) c c' d.one p d.no w13 (one_ok HOK.out) HU13.out HP1.out.2 (Nat.le_refl _); rw [one_tab, HV9.out] at this; exact this : Calls Tryd.prog 11 #[.agg #[.slice (some ⟨gp, 0, none⟩) d.np c, .slice (some ⟨go, 0, none⟩) d.no c'], .int .i64 (p : Int), .int .i64 (d.no : Int)] w13 fun e w' => e = .returned (.tuple #[.int .i64 v9, .int .i64 0]) ∧ Below w13.heap.size w13 w')).mono ?_
      rintro e w14 ⟨rfl, hb⟩
      have hB14 : Below w13.heap.size w13 w14 := bTrans (Below.refl _ _) hb
      have HD14 := Lib.hid (bTrans HD13.out hB14)
      have HT14 := Lib.hid (HT13.out.mono hB14)
      have HTB14 := Lib.hid (HTB13.out.mono hB14)
      have HRB14 := Lib.hid (HRB13.out.mono hB14)
      have HU14 := Lib.hid (HU13.out.mono hB14)
      have HQ14 := Lib.hid (HQ13.out.mono hB14)
      have D14 := Lib.hid (D13.out.mono hB14)
      have U14 := Lib.hid (U13.out.mono hB14)
      have H14 := Lib.hid (H13.out.mono hB14)
      have X14 := Lib.hid (X13.out.mono hB14)
      clear hb hB14 HD13 HT13 HTB13 HRB13 HU13 HQ13 D13 D_0 D_1 D_l U13 U_0 U_1 U_l H13 H_0 H_1 H_2 H_l X13 X_0 X_1 X_l
      obtain ⟨D_0, D_1, D_l⟩ := D14.out.c2
      obtain ⟨U_0, U_1, U_l⟩ := U14.out.c2
      obtain ⟨H_0, H_1, H_2, H_l⟩ := H14.out.c3
      obtain ⟨X_0, X_1, X_l⟩ := X14.out.c2
      go_wp2_with fail
      refine ((by have := nextD_any (some ⟨gp, 0, none⟩) (some ⟨go, 0, none⟩) c c' d.one 0 d.no w14 (one_ok HOK.out) HU14.out (by have := H2.out; omega) (Nat.le_refl _); rw [one_tab, HP2.out] at this; exact this : Calls Tryd.prog 17 #[.agg #[.slice (some ⟨gp, 0, none⟩) d.np c, .slice (some ⟨go, 0, none⟩) d.no c'], .int .i64 0, .int .i64 (d.no : Int)] w14 fun e w' => e = .returned (.tuple #[.int .i64 (p : Int), .int .i64 0]) ∧ Below w14.heap.size w14 w')).mono ?_
      rintro e w15 ⟨rfl, hb⟩
      have hB15 : Below w14.heap.size w14 w15 := bTrans (Below.refl _ _) hb
      have HD15 := Lib.hid (bTrans HD14.out hB15)
      have HT15 := Lib.hid (HT14.out.mono hB15)
      have HTB15 := Lib.hid (HTB14.out.mono hB15)
      have HRB15 := Lib.hid (HRB14.out.mono hB15)
      have HU15 := Lib.hid (HU14.out.mono hB15)
      have HQ15 := Lib.hid (HQ14.out.mono hB15)
      have D15 := Lib.hid (D14.out.mono hB15)
      have U15 := Lib.hid (U14.out.mono hB15)
      have H15 := Lib.hid (H14.out.mono hB15)
      have X15 := Lib.hid (X14.out.mono hB15)
      clear hb hB15 HD14 HT14 HTB14 HRB14 HU14 HQ14 D14 D_0 D_1 D_l U14 U_0 U_1 U_l H14 H_0 H_1 H_2 H_l X14 X_0 X_1 X_l
      obtain ⟨D_0, D_1, D_l⟩ := D15.out.c2
      obtain ⟨U_0, U_1, U_l⟩ := U15.out.c2
      obtain ⟨H_0, H_1, H_2, H_l⟩ := H15.out.c3
      obtain ⟨X_0, X_1, X_l⟩ := X15.out.c2
      go_wp2_with fail
      refine (caught_any _ HTB15.out).mono ?_
      rintro e w16 ⟨rfl, hb⟩
      have hB16 : Below w15.heap.size w15 w16 := bTrans (Below.refl _ _) hb
      have HD16 := Lib.hid (bTrans HD15.out hB16)
      have HT16 := Lib.hid (HT15.out.mono hB16)
      have HTB16 := Lib.hid (HTB15.out.mono hB16)
      have HRB16 := Lib.hid (HRB15.out.mono hB16)
      have HU16 := Lib.hid (HU15.out.mono hB16)
      have HQ16 := Lib.hid (HQ15.out.mono hB16)
      have D16 := Lib.hid (D15.out.mono hB16)
      have U16 := Lib.hid (U15.out.mono hB16)
      have H16 := Lib.hid (H15.out.mono hB16)
      have X16 := Lib.hid (X15.out.mono hB16)
      clear hb hB16 HD15 HT15 HTB15 HRB15 HU15 HQ15 D15 D_0 D_1 D_l U15 U_0 U_1 U_l H15 H_0 H_1 H_2 H_l X15 X_0 X_1 X_l
      obtain ⟨D_0, D_1, D_l⟩ := D16.out.c2
      obtain ⟨U_0, U_1, U_l⟩ := U16.out.c2
      obtain ⟨H_0, H_1, H_2, H_l⟩ := H16.out.c3
      obtain ⟨X_0, X_1, X_l⟩ := X16.out.c2
      go_wp2_with fail
      go_ret
      exact ⟨rfl, HD16.out⟩
end Go.Proofs.YthnojgdckkdcgaaDoor

