/- Parts joined: what all claims of this seat need. -/
import Derived.Test.YtifkjnmnflhnoaaGreatDoorNBO
import Derived.Test.YtifkjnmnflhnoaaGreatDoorNBP
import Derived.Test.YtifkjnmnflhnoaaGreatDoorNBI
import Derived.Test.YtifkjnmnflhnoaaGreatDoorNBE
import Derived.Test.YtifkjnmnflhnoaaGreatDoorNBK
import Derived.Test.YtifkjnmnflhnoaaGreatDoorNBC
import Derived.Test.YtifkjnmnflhnoaaGreatDoorNBH
import Derived.Test.YtifkjnmnflhnoaaGreatDoorNBJ
set_option linter.unusedSimpArgs false
set_option linter.unusedVariables false
namespace Go.Proofs.YtifkjnmnflhnoaaGreatDoor
open Go.RowKit Go.Sort
def f13 (k : Nat) : Int := if k = 0 then 1 else 3
theorem RowI.ints {w : World} {r : Nat} (h : RowI w r 1 3) : IntsAt w (some ⟨r, 0, none⟩) 2 f13 := by
  obtain ⟨h0, h1, hl, _⟩ := h.c
  exact ints2 hl h0 h1
theorem exE_between : exE.betweenV 1 0 = (0, 2) ∧ exE.knowErr (exE.wellB 1 && exE.wellB 0) = 0 := by
  have e : exE.knowErr (exE.wellB 1 && exE.wellB 0) = 0 := by rw [ex_well 1 (by decide) (by decide), ex_well 0 (by decide) (by decide)]; exact exE_know
  refine ⟨?_, e⟩
  unfold Qt.betweenV
  rw [e, if_pos rfl]
  show exE.between 1 0 = (0, 2)
  decide +kernel
set_option maxHeartbeats 4000000 in
set_option maxRecDepth 100000 in
theorem booked_any  (w : World) (hB : TabAt w) :
    Calls Tryz.prog 10 #[] w fun e w' => e = .returned (.bool true) ∧ Below w.heap.size w w' := by
  have HD0 := Lib.hid (Below.refl w.heap.size w)
  have HTB0 := Lib.hid hB
  clear hB
  go_enter Tryz.func10, Tryz.ntmps10
  go_wp2_with fail
  refine (example5_any _).mono ?_
  rintro e w1 ⟨⟨Aw, cw, Af, cf, Bw, dw, rfl, hE, _⟩, hb⟩
  have hB1 : Below w.heap.size w w1 := bTrans (Below.refl _ _) hb
  have HD1 := Lib.hid (bTrans HD0.out hB1)
  have HTB1 := Lib.hid (HTB0.out.mono hB1)
  have HE1 := Lib.hid (hE)
  clear hb hB1 HD0 HTB0
  clear hE
  go_wp2_with fail
  refine (example11_any _).mono ?_
  rintro e w2 ⟨⟨p1, p2, p3, p4, q1, q2, rfl, hk⟩, hb⟩
  have hB2 : Below w1.heap.size w1 w2 := bTrans (bAlloc (bAlloc (Below.refl _ _) (.cells #[.int .i64 2, .slice Aw 3 cw, .slice Af 1 cf] 25)) (.cells #[.int .i64 2, .slice Bw 3 dw, .slice none 0 0] 25)) hb
  have HD2 := Lib.hid (bTrans HD1.out hB2)
  have HTB2 := Lib.hid (HTB1.out.mono hB2)
  have HE2 := Lib.hid (HE1.out.mono hB2)
  have HK2 := Lib.hid (hk)
  have T2 := Lib.hid (show TBox w2 w1.heap.size 25 #[.int .i64 2, .slice Aw 3 cw, .slice Af 1 cf] from by have := ((TBox.new w1 #[.int .i64 2, .slice Aw 3 cw, .slice Af 1 cf] 25).mono (bAlloc (Below.refl _ _) (.cells #[.int .i64 2, .slice Bw 3 dw, .slice none 0 0] 25))).mono hb; simpa using this)
  have G2 := Lib.hid (show TBox w2 (w1.heap.size + 1) 25 #[.int .i64 2, .slice Bw 3 dw, .slice none 0 0] from by have := ((TBox.new (w1.alloc (.cells #[.int .i64 2, .slice Aw 3 cw, .slice Af 1 cf] 25)) #[.int .i64 2, .slice Bw 3 dw, .slice none 0 0] 25).mono (Below.refl _ _)).mono hb; simpa using this)
  clear hb hB2 HD1 HTB1 HE1
  obtain ⟨T_0, T_1, T_2, T_l⟩ := T2.out.c3
  obtain ⟨G_0, G_1, G_2, G_l⟩ := G2.out.c3
  clear hk
  go_wp2_with fail
  refine (betweenQ_any Aw Af cw cf exE 1 0 _ exE_small (HE2.out.mono (bAlloc (bAlloc (Below.refl _ _) (.cells #[.int .i64 10, .int .i64 2, .slice (some ⟨p3, 0, none⟩) 2 2, .slice (some ⟨p4, 0, none⟩) 2 2] 70)) (.cells #[.int .i64 10, .int .i64 1, .slice (some ⟨q1, 0, none⟩) 2 2, .slice (some ⟨q2, 0, none⟩) 1 1] 70))) (HTB2.out.mono (bAlloc (bAlloc (Below.refl _ _) (.cells #[.int .i64 10, .int .i64 2, .slice (some ⟨p3, 0, none⟩) 2 2, .slice (some ⟨p4, 0, none⟩) 2 2] 70)) (.cells #[.int .i64 10, .int .i64 1, .slice (some ⟨q1, 0, none⟩) 2 2, .slice (some ⟨q2, 0, none⟩) 1 1] 70)))).mono ?_
  rintro e w3 ⟨rfl, hb⟩
  rw [exE_between.1, exE_between.2]
  have hB3 : Below w2.heap.size w2 w3 := bTrans (bAlloc (bAlloc (Below.refl _ _) (.cells #[.int .i64 10, .int .i64 2, .slice (some ⟨p3, 0, none⟩) 2 2, .slice (some ⟨p4, 0, none⟩) 2 2] 70)) (.cells #[.int .i64 10, .int .i64 1, .slice (some ⟨q1, 0, none⟩) 2 2, .slice (some ⟨q2, 0, none⟩) 1 1] 70)) hb
  have HD3 := Lib.hid (bTrans HD2.out hB3)
  have HTB3 := Lib.hid (HTB2.out.mono hB3)
  have HE3 := Lib.hid (HE2.out.mono hB3)
  have HK3 := Lib.hid (HK2.out.mono hB3)
  have T3 := Lib.hid (T2.out.mono hB3)
  have G3 := Lib.hid (G2.out.mono hB3)
  have K3 := Lib.hid (show TBox w3 w2.heap.size 70 #[.int .i64 10, .int .i64 2, .slice (some ⟨p3, 0, none⟩) 2 2, .slice (some ⟨p4, 0, none⟩) 2 2] from by have := ((TBox.new w2 #[.int .i64 10, .int .i64 2, .slice (some ⟨p3, 0, none⟩) 2 2, .slice (some ⟨p4, 0, none⟩) 2 2] 70).mono (bAlloc (Below.refl _ _) (.cells #[.int .i64 10, .int .i64 1, .slice (some ⟨q1, 0, none⟩) 2 2, .slice (some ⟨q2, 0, none⟩) 1 1] 70))).mono hb; simpa using this)
  have L3 := Lib.hid (show TBox w3 (w2.heap.size + 1) 70 #[.int .i64 10, .int .i64 1, .slice (some ⟨q1, 0, none⟩) 2 2, .slice (some ⟨q2, 0, none⟩) 1 1] from by have := ((TBox.new (w2.alloc (.cells #[.int .i64 10, .int .i64 2, .slice (some ⟨p3, 0, none⟩) 2 2, .slice (some ⟨p4, 0, none⟩) 2 2] 70)) #[.int .i64 10, .int .i64 1, .slice (some ⟨q1, 0, none⟩) 2 2, .slice (some ⟨q2, 0, none⟩) 1 1] 70).mono (Below.refl _ _)).mono hb; simpa using this)
  clear hb hB3 HD2 HTB2 HE2 HK2 T2 T_0 T_1 T_2 T_l G2 G_0 G_1 G_2 G_l
  obtain ⟨T_0, T_1, T_2, T_l⟩ := T3.out.c3
  obtain ⟨G_0, G_1, G_2, G_l⟩ := G3.out.c3
  obtain ⟨K_0, K_1, K_2, K_3, K_l⟩ := K3.out.c4
  obtain ⟨L_0, L_1, L_2, L_3, L_l⟩ := L3.out.c4
  go_wp2_with fail
  refine (tie13_any (exK11 p1 p2 p3 p4) _ (exK11_ok _ _ _ _) (HK3.out.mono (bAlloc (Below.refl _ _) (.cells #[.int .i64 0, .int .i64 2] 43))) rfl rfl).mono ?_
  rintro e w4 ⟨⟨r, rfl, hr⟩, hb⟩
  have hB4 : Below w3.heap.size w3 w4 := bTrans (bAlloc (Below.refl _ _) (.cells #[.int .i64 0, .int .i64 2] 43)) hb
  have HD4 := Lib.hid (bTrans HD3.out hB4)
  have HTB4 := Lib.hid (HTB3.out.mono hB4)
  have HE4 := Lib.hid (HE3.out.mono hB4)
  have HK4 := Lib.hid (HK3.out.mono hB4)
  have HR4 := Lib.hid (hr)
  have T4 := Lib.hid (T3.out.mono hB4)
  have G4 := Lib.hid (G3.out.mono hB4)
  have K4 := Lib.hid (K3.out.mono hB4)
  have L4 := Lib.hid (L3.out.mono hB4)
  have S4 := Lib.hid (show TBox w4 w3.heap.size 43 #[.int .i64 0, .int .i64 2] from by have := ((TBox.new w3 #[.int .i64 0, .int .i64 2] 43).mono (Below.refl _ _)).mono hb; simpa using this)
  clear hb hB4 HD3 HTB3 HE3 HK3 T3 T_0 T_1 T_2 T_l G3 G_0 G_1 G_2 G_l K3 K_0 K_1 K_2 K_3 K_l L3 L_0 L_1 L_2 L_3 L_l
  obtain ⟨T_0, T_1, T_2, T_l⟩ := T4.out.c3
  obtain ⟨G_0, G_1, G_2, G_l⟩ := G4.out.c3
  obtain ⟨K_0, K_1, K_2, K_3, K_l⟩ := K4.out.c4
  obtain ⟨L_0, L_1, L_2, L_3, L_l⟩ := L4.out.c4
  obtain ⟨S_0, S_1, S_l⟩ := S4.out.c2
  clear hr
  go_wp2_with fail
  refine (example13_any _).mono ?_
  rintro e w5 ⟨⟨a1, a2, a3, b1, b2, b3, b4, rfl, hbk⟩, hb⟩
  have hB5 : Below w4.heap.size w4 w5 := bTrans (Below.refl _ _) hb
  have HD5 := Lib.hid (bTrans HD4.out hB5)
  have HTB5 := Lib.hid (HTB4.out.mono hB5)
  have HE5 := Lib.hid (HE4.out.mono hB5)
  have HK5 := Lib.hid (HK4.out.mono hB5)
  have HR5 := Lib.hid (HR4.out.mono hB5)
  have HF5 := Lib.hid (hbk)
  have T5 := Lib.hid (T4.out.mono hB5)
  have G5 := Lib.hid (G4.out.mono hB5)
  have K5 := Lib.hid (K4.out.mono hB5)
  have L5 := Lib.hid (L4.out.mono hB5)
  have S5 := Lib.hid (S4.out.mono hB5)
  clear hb hB5 HD4 HTB4 HE4 HK4 HR4 T4 T_0 T_1 T_2 T_l G4 G_0 G_1 G_2 G_l K4 K_0 K_1 K_2 K_3 K_l L4 L_0 L_1 L_2 L_3 L_l S4 S_0 S_1 S_l
  obtain ⟨T_0, T_1, T_2, T_l⟩ := T5.out.c3
  obtain ⟨G_0, G_1, G_2, G_l⟩ := G5.out.c3
  obtain ⟨K_0, K_1, K_2, K_3, K_l⟩ := K5.out.c4
  obtain ⟨L_0, L_1, L_2, L_3, L_l⟩ := L5.out.c4
  obtain ⟨S_0, S_1, S_l⟩ := S5.out.c2
  clear hbk
  go_wp2_with fail
  refine (fewestF_any (exF13 a1 a2 a3 b1 b2 b3 b4) 1 _ (exF13_ok _ _ _ _ _ _ _) HF5.out (exF13_heads _ _ _ _ _ _ _) (by decide)).mono ?_
  rintro e w6 ⟨rfl, hb⟩
  simp only [exF13]
  have hB6 : Below w5.heap.size w5 w6 := bTrans (Below.refl _ _) hb
  have HD6 := Lib.hid (bTrans HD5.out hB6)
  have HTB6 := Lib.hid (HTB5.out.mono hB6)
  have HE6 := Lib.hid (HE5.out.mono hB6)
  have HK6 := Lib.hid (HK5.out.mono hB6)
  have HR6 := Lib.hid (HR5.out.mono hB6)
  have HF6 := Lib.hid (HF5.out.mono hB6)
  have T6 := Lib.hid (T5.out.mono hB6)
  have G6 := Lib.hid (G5.out.mono hB6)
  have K6 := Lib.hid (K5.out.mono hB6)
  have L6 := Lib.hid (L5.out.mono hB6)
  have S6 := Lib.hid (S5.out.mono hB6)
  clear hb hB6 HD5 HTB5 HE5 HK5 HR5 HF5 T5 T_0 T_1 T_2 T_l G5 G_0 G_1 G_2 G_l K5 K_0 K_1 K_2 K_3 K_l L5 L_0 L_1 L_2 L_3 L_l S5 S_0 S_1 S_l
  obtain ⟨T_0, T_1, T_2, T_l⟩ := T6.out.c3
  obtain ⟨G_0, G_1, G_2, G_l⟩ := G6.out.c3
  obtain ⟨K_0, K_1, K_2, K_3, K_l⟩ := K6.out.c4
  obtain ⟨L_0, L_1, L_2, L_3, L_l⟩ := L6.out.c4
  obtain ⟨S_0, S_1, S_l⟩ := S6.out.c2
  go_wp2_with fail
  have HC6 := Lib.hid (show IntsAt (w6.alloc (.cells #[.int .i64 1, .int .i64 3] 3)) (some ⟨w6.heap.size, 0, none⟩) 2 f13 from by
    have h := TBox.new w6 #[.int .i64 1, .int .i64 3] 3
    exact ints2 h.lt (h.cell 0) (h.cell 1))
  refine (sameInts_same (some ⟨r, 0, none⟩) (some ⟨w6.heap.size, 0, none⟩) 2 2 2 f13 _ (by decide) (HR6.out.mono (bAlloc (Below.refl _ _) (.cells #[.int .i64 1, .int .i64 3] 3))).ints HC6.out).mono ?_
  rintro e w7 ⟨rfl, hb⟩
  have hB7 : Below w6.heap.size w6 w7 := bTrans (bAlloc (Below.refl _ _) (.cells #[.int .i64 1, .int .i64 3] 3)) hb
  have HD7 := Lib.hid (bTrans HD6.out hB7)
  have HTB7 := Lib.hid (HTB6.out.mono hB7)
  have HE7 := Lib.hid (HE6.out.mono hB7)
  have HK7 := Lib.hid (HK6.out.mono hB7)
  have HR7 := Lib.hid (HR6.out.mono hB7)
  have HF7 := Lib.hid (HF6.out.mono hB7)
  have T7 := Lib.hid (T6.out.mono hB7)
  have G7 := Lib.hid (G6.out.mono hB7)
  have K7 := Lib.hid (K6.out.mono hB7)
  have L7 := Lib.hid (L6.out.mono hB7)
  have S7 := Lib.hid (S6.out.mono hB7)
  have C7 := Lib.hid (show TBox w7 w6.heap.size 3 #[.int .i64 1, .int .i64 3] from by have := ((TBox.new w6 #[.int .i64 1, .int .i64 3] 3).mono (Below.refl _ _)).mono hb; simpa using this)
  clear hb hB7 HD6 HTB6 HE6 HK6 HR6 HF6 T6 T_0 T_1 T_2 T_l G6 G_0 G_1 G_2 G_l K6 K_0 K_1 K_2 K_3 K_l L6 L_0 L_1 L_2 L_3 L_l S6 S_0 S_1 S_l
  obtain ⟨T_0, T_1, T_2, T_l⟩ := T7.out.c3
  obtain ⟨G_0, G_1, G_2, G_l⟩ := G7.out.c3
  obtain ⟨K_0, K_1, K_2, K_3, K_l⟩ := K7.out.c4
  obtain ⟨L_0, L_1, L_2, L_3, L_l⟩ := L7.out.c4
  obtain ⟨S_0, S_1, S_l⟩ := S7.out.c2
  obtain ⟨C_0, C_1, C_l⟩ := C7.out.c2
  go_wp2_with fail
  go_ret
  exact ⟨rfl, HD7.out⟩
end Go.Proofs.YtifkjnmnflhnoaaGreatDoor

namespace Go.Proofs.YtifkjnmnflhnoaaGreatDoor
open Go.RowKit Go.Sort
end Go.Proofs.YtifkjnmnflhnoaaGreatDoor

namespace Go.Proofs.YtifkjnmnflhnoaaGreatDoor
open Go.RowKit Go.Sort
theorem within11_b (n lo hi : Int) (b : Bool) (w : World) (h : inR n lo hi = b) : Calls Tryz.prog 72 #[.int .i64 n, .int .i64 lo, .int .i64 hi] w fun e w' => e = .returned (.bool b) ∧ Below w.heap.size w w' := by
  have H := Lib.hid h
  clear h
  go_enter Tryz.func72, Tryz.ntmps72
  go_wp2_with fail
  refine (within_b _ _ _ _ _ H.out).mono ?_
  rintro e w' ⟨rfl, rfl⟩
  go_wp2_with fail
  go_ret
  exact ⟨rfl, Below.refl _ _⟩
theorem within13_b (n lo hi : Int) (b : Bool) (w : World) (h : inR n lo hi = b) : Calls Tryz.prog 32 #[.int .i64 n, .int .i64 lo, .int .i64 hi] w fun e w' => e = .returned (.bool b) ∧ Below w.heap.size w w' := by
  have H := Lib.hid h
  clear h
  go_enter Tryz.func32, Tryz.ntmps32
  go_wp2_with fail
  refine (within_b _ _ _ _ _ H.out).mono ?_
  rintro e w' ⟨rfl, rfl⟩
  go_wp2_with fail
  go_ret
  exact ⟨rfl, Below.refl _ _⟩
set_option maxHeartbeats 4000000 in
set_option maxRecDepth 100000 in
theorem isCord11_any (k : Kb) (C : Crd) (w : World) (hb : 2 ≤ k.base ∧ k.base ≤ 10) (hp : k.pl ≤ 4) (h : CordOk k.base k.pl C.sp) (hC : SpsAt w C.ca k.pl C.sp) :
    Calls Tryz.prog 73 #[.agg #[.int .i64 k.base, .int .i64 (k.pl : Int), .slice k.a k.n k.c, .slice k.top.ca k.pl k.top.cc], .slice C.ca k.pl C.cc] w fun e w' => e = .returned (.bool (true)) ∧ Below w.heap.size w w' := by
  have hw : IntKind.i64.wrap (k.base - 1) = k.base - 1 := IntWalk.i64_in _ (by omega)
  obtain ⟨ca, hca⟩ : ∃ a, C.ca = a := ⟨_, rfl⟩
  rw [hca] at hC ⊢
  clear hca
  have HD0 := Lib.hid (Below.refl w.heap.size w)
  have HBA := Lib.hid hb
  have HP := Lib.hid hp
  have HH := Lib.hid h
  have HC0 := Lib.hid hC
  clear hb hp h hC
  go_enter Tryz.func73, Tryz.ntmps73
  obtain ⟨w1, hw1⟩ : ∃ w1, w1 = (w.alloc (.cells #[.int .i64 k.base, .int .i64 (k.pl : Int), .slice k.a k.n k.c, .slice k.top.ca k.pl k.top.cc] 70)) := ⟨_, rfl⟩
  have hb : Below (w.alloc (.cells #[.int .i64 k.base, .int .i64 (k.pl : Int), .slice k.a k.n k.c, .slice k.top.ca k.pl k.top.cc] 70)).heap.size (w.alloc (.cells #[.int .i64 k.base, .int .i64 (k.pl : Int), .slice k.a k.n k.c, .slice k.top.ca k.pl k.top.cc] 70)) w1 := by rw [hw1]; exact Below.refl _ _
  go_wp2_with fail
  rw [← hw1]
  clear hw1
  have hB1 : Below w.heap.size w w1 := bTrans (bAlloc (Below.refl _ _) (.cells #[.int .i64 k.base, .int .i64 (k.pl : Int), .slice k.a k.n k.c, .slice k.top.ca k.pl k.top.cc] 70)) hb
  have HD1 := Lib.hid (bTrans HD0.out hB1)
  have HC1 := Lib.hid (HC0.out.mono hB1)
  have K1 := Lib.hid (show TBox w1 w.heap.size 70 #[.int .i64 k.base, .int .i64 (k.pl : Int), .slice k.a k.n k.c, .slice k.top.ca k.pl k.top.cc] from by have := ((TBox.new w #[.int .i64 k.base, .int .i64 (k.pl : Int), .slice k.a k.n k.c, .slice k.top.ca k.pl k.top.cc] 70).mono (Below.refl _ _)).mono hb; simpa using this)
  clear hb hB1 HD0 HC0
  obtain ⟨K_0, K_1, K_2, K_3, K_l⟩ := K1.out.c4
  clear K_0 K_1 K_2 K_3 K_l
  go_loopw [5] (fun s5 wr => ∃ j : Nat, j ≤ k.pl ∧ s5 = .int .i64 (j : Int) ∧ Below w1.heap.size w1 wr) (fun s5 _ => k.pl - (intOf s5).toNat)
  case atStart => exact ⟨0, Nat.zero_le _, rfl, Below.refl _ _⟩
  case round =>
    obtain ⟨j, hk_j, rfl, hb⟩ := hrel
    have HBj := Lib.hid hb
    have hB2 : Below w1.heap.size w1 wr := bTrans (Below.refl _ _) hb
    have HD2 := Lib.hid (bTrans HD1.out hB2)
    have HC2 := Lib.hid (HC1.out.mono hB2)
    have HU_j2 := Lib.hid ((show Upto w1 wr from HBj.out))
    have K2 := Lib.hid (K1.out.mono hB2)
    clear hb hB2
    obtain ⟨K_0, K_1, K_2, K_3, K_l⟩ := K2.out.c4
    by_cases hlt_j : j < k.pl
    case pos =>
      have h1_j : (j : Int) < (k.pl : Int) := by omega
      have h0_j : (0 : Int) ≤ (j : Int) := by omega
      have hb_j : j < 100 := by have := HP.out; omega
      rcases HC2.out with h0 | ⟨x, o, rfl, hl, hc⟩
      · omega
      obtain ⟨c0, c1⟩ := hc j hlt_j
      have hj := HH.out j hlt_j
      obtain ⟨lo, hlo⟩ : ∃ z, (C.sp j).1 = z := ⟨_, rfl⟩
      obtain ⟨hi, hhi⟩ : ∃ z, (C.sp j).2 = z := ⟨_, rfl⟩
      rw [hlo] at c0 hj
      rw [hhi] at c1 hj
      have HJ := Lib.hid hj
      clear hc hj hlo hhi
      have HC1 := Lib.hid (fun (w' : World) (hb : Below wr.heap.size wr w') => (within11_b hi 0 (k.base - 1) true w' (inR_t (by have := HJ.out; omega)) : Calls Tryz.prog 72 #[.int .i64 hi, .int .i64 0, .int .i64 (k.base - 1)] w' fun e w'' => e = .returned (.bool true) ∧ Below w'.heap.size w' w''))
      have HC2 := Lib.hid (fun (w' : World) (hb : Below wr.heap.size wr w') => (within11_b lo 0 hi true w' (inR_t (by have := HJ.out; omega)) : Calls Tryz.prog 72 #[.int .i64 lo, .int .i64 0, .int .i64 hi] w' fun e w'' => e = .returned (.bool true) ∧ Below w'.heap.size w' w''))
      go_wp2_with fail
      refine wp_region_quiet_below (by kernel_rfl) (by kernel_rfl) ?_
      repeat (go_big_quiet_step (((first | (go_at_call 72; with_reducible exact Calls.regrown_of (HC1.out _ (below_regrown _ _ _))) | (go_at_call 72; with_reducible exact Calls.regrown_of (HC2.out _ (below_regrown _ _ _)))))))
      refine wpQuiet_nil ?_
      intro w3 hw9
      have hb := below_of_regrown hw9
      clear hw9
      clear HC1 HC2 c0 c1 hl
      have hB3 : Below wr.heap.size wr w3 := bTrans (Below.refl _ _) hb
      have HD3 := Lib.hid (bTrans HD2.out hB3)
      have HC3 := Lib.hid (HC2.out.mono hB3)
      have HU_j3 := Lib.hid (HU_j2.out.mono hB3)
      have K3 := Lib.hid (K2.out.mono hB3)
      clear hb hB3 HD2 HC2 HU_j2 K2 K_0 K_1 K_2 K_3 K_l
      obtain ⟨K_0, K_1, K_2, K_3, K_l⟩ := K3.out.c4
      go_wp2_with fail
      go_roundw
      case rel =>
        first
        | exact ⟨j + 1, by omega, by go_num, HU_j3.out⟩
        | ((repeat apply Exists.intro)
           refine ⟨⟨j + 1, by omega, ?_, HU_j3.out⟩, rfl⟩
           go_num)
      case measure => simp [intOf]; omega
    have he_j : j = k.pl := by omega
    subst he_j
    go_wp2_with fail
    go_ret
    exact ⟨rfl, HD2.out⟩
set_option maxHeartbeats 4000000 in
set_option maxRecDepth 100000 in
theorem checkK11_any (k : Kb) (w : World) (ok : k.Ok) (h0 : k.n = 0) (hC : SpsAt w k.top.ca k.pl k.top.sp) :
    Calls Tryz.prog 52 #[.agg #[.int .i64 k.base, .int .i64 (k.pl : Int), .slice k.a k.n k.c, .slice k.top.ca k.pl k.top.cc]] w fun e w' => e = .returned (.int .i64 (0)) ∧ Below w.heap.size w w' := by
  have h4 : ¬ (k.n : Int) > 4 := by omega
  have h4b : decide ((k.n : Int) > 4) = false := by simp; omega
  have HD0 := Lib.hid (Below.refl w.heap.size w)
  have HOK := Lib.hid ok
  have HN := Lib.hid h0
  have HC0 := Lib.hid hC
  clear ok h0 hC
  go_enter Tryz.func52, Tryz.ntmps52
  go_wp2_with fail
  refine (within11_b _ _ _ true _ (inR_t (by have := HOK.out.base; omega))).mono ?_
  rintro e w1 ⟨rfl, hb⟩
  have hB1 : Below w.heap.size w w1 := bTrans (bAlloc (Below.refl _ _) (.cells #[.int .i64 k.base, .int .i64 (k.pl : Int), .slice k.a k.n k.c, .slice k.top.ca k.pl k.top.cc] 70)) hb
  have HD1 := Lib.hid (bTrans HD0.out hB1)
  have HC1 := Lib.hid (HC0.out.mono hB1)
  have K1 := Lib.hid (show TBox w1 w.heap.size 70 #[.int .i64 k.base, .int .i64 (k.pl : Int), .slice k.a k.n k.c, .slice k.top.ca k.pl k.top.cc] from by have := ((TBox.new w #[.int .i64 k.base, .int .i64 (k.pl : Int), .slice k.a k.n k.c, .slice k.top.ca k.pl k.top.cc] 70).mono (Below.refl _ _)).mono hb; simpa using this)
  clear hb hB1 HD0 HC0
  obtain ⟨K_0, K_1, K_2, K_3, K_l⟩ := K1.out.c4
  go_wp2_with fail
  refine (within11_b _ _ _ true _ (inR_t (by have := HOK.out.pl; omega))).mono ?_
  rintro e w2 ⟨rfl, hb⟩
  have hB2 : Below w1.heap.size w1 w2 := bTrans (Below.refl _ _) hb
  have HD2 := Lib.hid (bTrans HD1.out hB2)
  have HC2 := Lib.hid (HC1.out.mono hB2)
  have K2 := Lib.hid (K1.out.mono hB2)
  clear hb hB2 HD1 HC1 K1 K_0 K_1 K_2 K_3 K_l
  obtain ⟨K_0, K_1, K_2, K_3, K_l⟩ := K2.out.c4
  go_wp2_with fail
  refine (isCord11_any k k.top _ HOK.out.base HOK.out.pl.2 HOK.out.top HC2.out).mono ?_
  rintro e w3 ⟨rfl, hb⟩
  have hB3 : Below w2.heap.size w2 w3 := bTrans (Below.refl _ _) hb
  have HD3 := Lib.hid (bTrans HD2.out hB3)
  have HC3 := Lib.hid (HC2.out.mono hB3)
  have K3 := Lib.hid (K2.out.mono hB3)
  clear hb hB3 HD2 HC2 K2 K_0 K_1 K_2 K_3 K_l
  obtain ⟨K_0, K_1, K_2, K_3, K_l⟩ := K3.out.c4
  go_wp2_with fail
  clear K_0 K_1 K_2 K_3 K_l
  go_loopw [3] (fun s3 wr => ∃ j : Nat, j ≤ k.n ∧ s3 = .int .i64 (j : Int) ∧ Below w3.heap.size w3 wr) (fun s3 _ => k.n - (intOf s3).toNat)
  case atStart => exact ⟨0, Nat.zero_le _, rfl, Below.refl _ _⟩
  case round =>
    obtain ⟨j, hk_j, rfl, hb⟩ := hrel
    have HBj := Lib.hid hb
    have hB4 : Below w3.heap.size w3 wr := bTrans (Below.refl _ _) hb
    have HD4 := Lib.hid (bTrans HD3.out hB4)
    have HC4 := Lib.hid (HC3.out.mono hB4)
    have HU_j4 := Lib.hid ((show Upto w3 wr from HBj.out))
    have K4 := Lib.hid (K3.out.mono hB4)
    clear hb hB4
    obtain ⟨K_0, K_1, K_2, K_3, K_l⟩ := K4.out.c4
    by_cases hlt_j : j < k.n
    case pos =>
      have h1_j : (j : Int) < (k.n : Int) := by omega
      have h0_j : (0 : Int) ≤ (j : Int) := by omega
      exact absurd hlt_j (by have := HN.out; omega)
    have he_j : j = k.n := by omega
    subst he_j
    go_wp2_with fail
    go_ret
    exact ⟨rfl, HD4.out⟩
set_option maxHeartbeats 4000000 in
set_option maxRecDepth 100000 in
theorem knots13_any (b : Bk) (C : Crd) (w : World) :
    Calls Tryz.prog 53 #[.agg #[.int .i64 b.base, .int .i64 (b.pl : Int), .int .i64 b.pers, .int .i64 b.late, .slice b.a1 b.n1 b.c1, .slice b.a2 b.n2 b.c2], .slice C.ca b.pl C.cc] w fun e w' => e = .returned (.agg #[.int .i64 b.base, .int .i64 (b.pl : Int), .slice none 0 0, .slice C.ca b.pl C.cc]) ∧ Below w.heap.size w w' := by
  have HD0 := Lib.hid (Below.refl w.heap.size w)
  go_enter Tryz.func53, Tryz.ntmps53
  go_wp2_with fail
  refine bodyPost_ret (v := .agg #[.int .i64 b.base, .int .i64 (b.pl : Int), .slice none 0 0, .slice C.ca b.pl C.cc]) (by simp [results, Tryz.results53, go_sem, *]) rfl ⟨rfl, ?_⟩
  exact bAlloc (bAlloc (Below.refl _ _) _) _
set_option maxHeartbeats 4000000 in
set_option maxRecDepth 100000 in
theorem person13_any (b : Bk) (n : Int) (w : World) (hp : b.pers ≤ 4) (h : 0 ≤ n ∧ n ≤ b.pers - 1) :
    Calls Tryz.prog 51 #[.agg #[.int .i64 b.base, .int .i64 (b.pl : Int), .int .i64 b.pers, .int .i64 b.late, .slice b.a1 b.n1 b.c1, .slice b.a2 b.n2 b.c2], .int .i64 n] w fun e w' => e = .returned (.bool (true)) ∧ Below w.heap.size w w' := by
  have hw : IntKind.i64.wrap (b.pers - 1) = b.pers - 1 := IntWalk.i64_in _ (by omega)
  have HD0 := Lib.hid (Below.refl w.heap.size w)
  have HH := Lib.hid h
  clear h
  go_enter Tryz.func51, Tryz.ntmps51
  go_wp2_with fail
  refine (within13_b _ _ _ true _ (inR_t HH.out)).mono ?_
  rintro e w1 ⟨rfl, hb⟩
  have hB1 : Below w.heap.size w w1 := bTrans (bAlloc (Below.refl _ _) (.cells #[.int .i64 b.base, .int .i64 (b.pl : Int), .int .i64 b.pers, .int .i64 b.late, .slice b.a1 b.n1 b.c1, .slice b.a2 b.n2 b.c2] 41)) hb
  have HD1 := Lib.hid (bTrans HD0.out hB1)
  have B1 := Lib.hid (show TBox w1 w.heap.size 41 #[.int .i64 b.base, .int .i64 (b.pl : Int), .int .i64 b.pers, .int .i64 b.late, .slice b.a1 b.n1 b.c1, .slice b.a2 b.n2 b.c2] from by have := ((TBox.new w #[.int .i64 b.base, .int .i64 (b.pl : Int), .int .i64 b.pers, .int .i64 b.late, .slice b.a1 b.n1 b.c1, .slice b.a2 b.n2 b.c2] 41).mono (Below.refl _ _)).mono hb; simpa using this)
  clear hb hB1 HD0
  obtain ⟨B_0, B_1, B_2, B_3, B_4, B_5, B_l⟩ := B1.out.c6
  go_wp2_with fail
  go_ret
  exact ⟨rfl, HD1.out⟩
set_option maxHeartbeats 4000000 in
set_option maxRecDepth 100000 in
theorem areEnt13_any (b : Bk) (A : Option Addr) (n c : Nat) (f : Nat → Ent) (w : World) (ok : b.Ok) (hn : n ≤ 5) (hf : ∀ i, i < n → EntOk b (f i)) (hA : EntsAt w A n b.pl f) :
    Calls Tryz.prog 33 #[.agg #[.int .i64 b.base, .int .i64 (b.pl : Int), .int .i64 b.pers, .int .i64 b.late, .slice b.a1 b.n1 b.c1, .slice b.a2 b.n2 b.c2], .slice A n c] w fun e w' => e = .returned (.bool (true)) ∧ Below w.heap.size w w' := by
  have h5 : ¬ (n : Int) > 5 := by omega
  have h5b : decide ((n : Int) > 5) = false := by simp; omega
  have HD0 := Lib.hid (Below.refl w.heap.size w)
  have HOK := Lib.hid ok
  have HN := Lib.hid hn
  have HF := Lib.hid hf
  have HA0 := Lib.hid hA
  clear ok hn hf hA
  go_enter Tryz.func33, Tryz.ntmps33
  obtain ⟨w1, hw1⟩ : ∃ w1, w1 = (w.alloc (.cells #[.int .i64 b.base, .int .i64 (b.pl : Int), .int .i64 b.pers, .int .i64 b.late, .slice b.a1 b.n1 b.c1, .slice b.a2 b.n2 b.c2] 41)) := ⟨_, rfl⟩
  have hb : Below (w.alloc (.cells #[.int .i64 b.base, .int .i64 (b.pl : Int), .int .i64 b.pers, .int .i64 b.late, .slice b.a1 b.n1 b.c1, .slice b.a2 b.n2 b.c2] 41)).heap.size (w.alloc (.cells #[.int .i64 b.base, .int .i64 (b.pl : Int), .int .i64 b.pers, .int .i64 b.late, .slice b.a1 b.n1 b.c1, .slice b.a2 b.n2 b.c2] 41)) w1 := by rw [hw1]; exact Below.refl _ _
  go_wp2_with fail
  rw [← hw1]
  clear hw1
  have hB1 : Below w.heap.size w w1 := bTrans (bAlloc (Below.refl _ _) (.cells #[.int .i64 b.base, .int .i64 (b.pl : Int), .int .i64 b.pers, .int .i64 b.late, .slice b.a1 b.n1 b.c1, .slice b.a2 b.n2 b.c2] 41)) hb
  have HD1 := Lib.hid (bTrans HD0.out hB1)
  have HA1 := Lib.hid (HA0.out.mono hB1)
  have B1 := Lib.hid (show TBox w1 w.heap.size 41 #[.int .i64 b.base, .int .i64 (b.pl : Int), .int .i64 b.pers, .int .i64 b.late, .slice b.a1 b.n1 b.c1, .slice b.a2 b.n2 b.c2] from by have := ((TBox.new w #[.int .i64 b.base, .int .i64 (b.pl : Int), .int .i64 b.pers, .int .i64 b.late, .slice b.a1 b.n1 b.c1, .slice b.a2 b.n2 b.c2] 41).mono (Below.refl _ _)).mono hb; simpa using this)
  clear hb hB1 HD0 HA0
  obtain ⟨B_0, B_1, B_2, B_3, B_4, B_5, B_l⟩ := B1.out.c6
  clear B_0 B_1 B_2 B_3 B_4 B_5 B_l
  go_loopw [5] (fun s5 wr => ∃ j : Nat, j ≤ n ∧ s5 = .int .i64 (j : Int) ∧ Below w1.heap.size w1 wr) (fun s5 _ => n - (intOf s5).toNat)
  case atStart => exact ⟨0, Nat.zero_le _, rfl, Below.refl _ _⟩
  case round =>
    obtain ⟨j, hk_j, rfl, hb⟩ := hrel
    have HBj := Lib.hid hb
    have hB2 : Below w1.heap.size w1 wr := bTrans (Below.refl _ _) hb
    have HD2 := Lib.hid (bTrans HD1.out hB2)
    have HA2 := Lib.hid (HA1.out.mono hB2)
    have HU_j2 := Lib.hid ((show Upto w1 wr from HBj.out))
    have B2 := Lib.hid (B1.out.mono hB2)
    clear hb hB2
    obtain ⟨B_0, B_1, B_2, B_3, B_4, B_5, B_l⟩ := B2.out.c6
    by_cases hlt_j : j < n
    case pos =>
      have h1_j : (j : Int) < (n : Int) := by omega
      have h0_j : (0 : Int) ≤ (j : Int) := by omega
      have hb_j : j < 100 := by have := HN.out; omega
      have HSP2 := Lib.hid (HA2.out.sp hlt_j)
      have HE := Lib.hid (HF.out j hlt_j)
      rcases HA2.out with h0 | ⟨x, o, rfl, hl, hc⟩
      · omega
      obtain ⟨c0, c1, c2, _⟩ := hc j hlt_j
      clear hc
      go_wp2_with fail
      refine (within13_b _ _ _ true _ (inR_t HE.out.day)).mono ?_
      rintro e w3 ⟨rfl, hb⟩
      have hB3 : Below wr.heap.size wr w3 := bTrans (bAlloc (Below.refl _ _) (.cells #[.int .i64 (f j).day, .int .i64 (f j).who, .slice (f j).ca b.pl (f j).cc] 48)) hb
      have HD3 := Lib.hid (bTrans HD2.out hB3)
      have HA3 := Lib.hid (HA2.out.mono hB3)
      have HU_j3 := Lib.hid (HU_j2.out.mono hB3)
      have HSP3 := Lib.hid (HSP2.out.mono hB3)
      have B3 := Lib.hid (B2.out.mono hB3)
      have E3 := Lib.hid (show TBox w3 wr.heap.size 48 #[.int .i64 (f j).day, .int .i64 (f j).who, .slice (f j).ca b.pl (f j).cc] from by have := ((TBox.new wr #[.int .i64 (f j).day, .int .i64 (f j).who, .slice (f j).ca b.pl (f j).cc] 48).mono (Below.refl _ _)).mono hb; simpa using this)
      clear hb hB3 HD2 HA2 HU_j2 HSP2 B2 B_0 B_1 B_2 B_3 B_4 B_5 B_l
      obtain ⟨B_0, B_1, B_2, B_3, B_4, B_5, B_l⟩ := B3.out.c6
      obtain ⟨E_0, E_1, E_2, E_l⟩ := E3.out.c3
      clear c0 c1 c2 hl
      go_wp2_with fail
      refine (person13_any b _ _ HOK.out.pers.2 HE.out.who).mono ?_
      rintro e w4 ⟨rfl, hb⟩
      have hB4 : Below w3.heap.size w3 w4 := bTrans (Below.refl _ _) hb
      have HD4 := Lib.hid (bTrans HD3.out hB4)
      have HA4 := Lib.hid (HA3.out.mono hB4)
      have HU_j4 := Lib.hid (HU_j3.out.mono hB4)
      have HSP4 := Lib.hid (HSP3.out.mono hB4)
      have B4 := Lib.hid (B3.out.mono hB4)
      have E4 := Lib.hid (E3.out.mono hB4)
      clear hb hB4 HD3 HA3 HU_j3 HSP3 B3 B_0 B_1 B_2 B_3 B_4 B_5 B_l E3 E_0 E_1 E_2 E_l
      obtain ⟨B_0, B_1, B_2, B_3, B_4, B_5, B_l⟩ := B4.out.c6
      obtain ⟨E_0, E_1, E_2, E_l⟩ := E4.out.c3
      go_wp2_with fail
      refine (knots13_any b (f j).crd _).mono ?_
      rintro e w5 ⟨rfl, hb⟩
      have hB5 : Below w4.heap.size w4 w5 := bTrans (Below.refl _ _) hb
      have HD5 := Lib.hid (bTrans HD4.out hB5)
      have HA5 := Lib.hid (HA4.out.mono hB5)
      have HU_j5 := Lib.hid (HU_j4.out.mono hB5)
      have HSP5 := Lib.hid (HSP4.out.mono hB5)
      have B5 := Lib.hid (B4.out.mono hB5)
      have E5 := Lib.hid (E4.out.mono hB5)
      clear hb hB5 HD4 HA4 HU_j4 HSP4 B4 B_0 B_1 B_2 B_3 B_4 B_5 B_l E4 E_0 E_1 E_2 E_l
      obtain ⟨B_0, B_1, B_2, B_3, B_4, B_5, B_l⟩ := B5.out.c6
      obtain ⟨E_0, E_1, E_2, E_l⟩ := E5.out.c3
      go_wp2_with fail
      refine (checkK11_any { base := b.base, pl := b.pl, n := 0, a := none, c := 0, g := fun _ => (f j).crd, top := (f j).crd } _ ⟨HOK.out.base, HOK.out.pl, (Nat.zero_le 4), (fun _ h => absurd h (Nat.not_lt_zero _)), HE.out.cord⟩ rfl HSP5.out).mono ?_
      rintro e w6 ⟨rfl, hb⟩
      have hB6 : Below w5.heap.size w5 w6 := bTrans (Below.refl _ _) hb
      have HD6 := Lib.hid (bTrans HD5.out hB6)
      have HA6 := Lib.hid (HA5.out.mono hB6)
      have HU_j6 := Lib.hid (HU_j5.out.mono hB6)
      have HSP6 := Lib.hid (HSP5.out.mono hB6)
      have B6 := Lib.hid (B5.out.mono hB6)
      have E6 := Lib.hid (E5.out.mono hB6)
      clear hb hB6 HD5 HA5 HU_j5 HSP5 B5 B_0 B_1 B_2 B_3 B_4 B_5 B_l E5 E_0 E_1 E_2 E_l
      obtain ⟨B_0, B_1, B_2, B_3, B_4, B_5, B_l⟩ := B6.out.c6
      obtain ⟨E_0, E_1, E_2, E_l⟩ := E6.out.c3
      go_wp2_with fail
      go_roundw
      case rel =>
        first
        | exact ⟨j + 1, by omega, by go_num, HU_j6.out⟩
        | ((repeat apply Exists.intro)
           refine ⟨⟨j + 1, by omega, ?_, HU_j6.out⟩, rfl⟩
           go_num)
      case measure => simp [intOf]; omega
    have he_j : j = n := by omega
    subst he_j
    go_wp2_with fail
    go_ret
    exact ⟨rfl, HD2.out⟩
set_option maxHeartbeats 4000000 in
set_option maxRecDepth 100000 in
theorem checkF13_any (b : Bk) (w : World) (ok : b.Ok) (hT : BkAt w b) :
    Calls Tryz.prog 12 #[.agg #[.int .i64 b.base, .int .i64 (b.pl : Int), .int .i64 b.pers, .int .i64 b.late, .slice b.a1 b.n1 b.c1, .slice b.a2 b.n2 b.c2]] w fun e w' => e = .returned (.int .i64 (0)) ∧ Below w.heap.size w w' := by
  have HD0 := Lib.hid (Below.refl w.heap.size w)
  have HOK := Lib.hid ok
  have HT0 := Lib.hid hT
  clear ok hT
  go_enter Tryz.func12, Tryz.ntmps12
  go_wp2_with fail
  refine (within13_b _ _ _ true _ (inR_t (by have := HOK.out.base; omega))).mono ?_
  rintro e w1 ⟨rfl, hb⟩
  have hB1 : Below w.heap.size w w1 := bTrans (bAlloc (Below.refl _ _) (.cells #[.int .i64 b.base, .int .i64 (b.pl : Int), .int .i64 b.pers, .int .i64 b.late, .slice b.a1 b.n1 b.c1, .slice b.a2 b.n2 b.c2] 41)) hb
  have HD1 := Lib.hid (bTrans HD0.out hB1)
  have HT1 := Lib.hid (HT0.out.mono hB1)
  have B1 := Lib.hid (show TBox w1 w.heap.size 41 #[.int .i64 b.base, .int .i64 (b.pl : Int), .int .i64 b.pers, .int .i64 b.late, .slice b.a1 b.n1 b.c1, .slice b.a2 b.n2 b.c2] from by have := ((TBox.new w #[.int .i64 b.base, .int .i64 (b.pl : Int), .int .i64 b.pers, .int .i64 b.late, .slice b.a1 b.n1 b.c1, .slice b.a2 b.n2 b.c2] 41).mono (Below.refl _ _)).mono hb; simpa using this)
  clear hb hB1 HD0 HT0
  obtain ⟨B_0, B_1, B_2, B_3, B_4, B_5, B_l⟩ := B1.out.c6
  go_wp2_with fail
  refine (within13_b _ _ _ true _ (inR_t (by have := HOK.out.pl; omega))).mono ?_
  rintro e w2 ⟨rfl, hb⟩
  have hB2 : Below w1.heap.size w1 w2 := bTrans (Below.refl _ _) hb
  have HD2 := Lib.hid (bTrans HD1.out hB2)
  have HT2 := Lib.hid (HT1.out.mono hB2)
  have B2 := Lib.hid (B1.out.mono hB2)
  clear hb hB2 HD1 HT1 B1 B_0 B_1 B_2 B_3 B_4 B_5 B_l
  obtain ⟨B_0, B_1, B_2, B_3, B_4, B_5, B_l⟩ := B2.out.c6
  go_wp2_with fail
  refine (within13_b _ _ _ true _ (inR_t (by have := HOK.out.pers; omega))).mono ?_
  rintro e w3 ⟨rfl, hb⟩
  have hB3 : Below w2.heap.size w2 w3 := bTrans (Below.refl _ _) hb
  have HD3 := Lib.hid (bTrans HD2.out hB3)
  have HT3 := Lib.hid (HT2.out.mono hB3)
  have B3 := Lib.hid (B2.out.mono hB3)
  clear hb hB3 HD2 HT2 B2 B_0 B_1 B_2 B_3 B_4 B_5 B_l
  obtain ⟨B_0, B_1, B_2, B_3, B_4, B_5, B_l⟩ := B3.out.c6
  go_wp2_with fail
  refine (within13_b _ _ _ true _ (inR_t (by have := HOK.out.late; omega))).mono ?_
  rintro e w4 ⟨rfl, hb⟩
  have hB4 : Below w3.heap.size w3 w4 := bTrans (Below.refl _ _) hb
  have HD4 := Lib.hid (bTrans HD3.out hB4)
  have HT4 := Lib.hid (HT3.out.mono hB4)
  have B4 := Lib.hid (B3.out.mono hB4)
  clear hb hB4 HD3 HT3 B3 B_0 B_1 B_2 B_3 B_4 B_5 B_l
  obtain ⟨B_0, B_1, B_2, B_3, B_4, B_5, B_l⟩ := B4.out.c6
  go_wp2_with fail
  refine (areEnt13_any b b.a1 b.n1 b.c1 b.e1 _ HOK.out HOK.out.n1 HOK.out.e1 HT4.out.ones).mono ?_
  rintro e w5 ⟨rfl, hb⟩
  have hB5 : Below w4.heap.size w4 w5 := bTrans (Below.refl _ _) hb
  have HD5 := Lib.hid (bTrans HD4.out hB5)
  have HT5 := Lib.hid (HT4.out.mono hB5)
  have B5 := Lib.hid (B4.out.mono hB5)
  clear hb hB5 HD4 HT4 B4 B_0 B_1 B_2 B_3 B_4 B_5 B_l
  obtain ⟨B_0, B_1, B_2, B_3, B_4, B_5, B_l⟩ := B5.out.c6
  go_wp2_with fail
  refine (areEnt13_any b b.a2 b.n2 b.c2 b.e2 _ HOK.out HOK.out.n2 HOK.out.e2 HT5.out.others).mono ?_
  rintro e w6 ⟨rfl, hb⟩
  have hB6 : Below w5.heap.size w5 w6 := bTrans (Below.refl _ _) hb
  have HD6 := Lib.hid (bTrans HD5.out hB6)
  have HT6 := Lib.hid (HT5.out.mono hB6)
  have B6 := Lib.hid (B5.out.mono hB6)
  clear hb hB6 HD5 HT5 B5 B_0 B_1 B_2 B_3 B_4 B_5 B_l
  obtain ⟨B_0, B_1, B_2, B_3, B_4, B_5, B_l⟩ := B6.out.c6
  go_wp2_with fail
  go_ret
  exact ⟨rfl, HD6.out⟩
end Go.Proofs.YtifkjnmnflhnoaaGreatDoor

