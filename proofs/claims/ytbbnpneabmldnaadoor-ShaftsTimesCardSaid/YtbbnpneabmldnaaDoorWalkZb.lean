/- Walk: Deep of the program. -/
import Derived.Test.YtbbnpneabmldnaaDoorWalkZa
namespace Go.Proofs.YtbbnpneabmldnaaDoor
open Go.RowKit Go.Sort
/-- the shaft of the first feet -/
def Sh.first (S : Sh) (d : Nat) : Sh := ⟨S.nr, S.rock, d, S.foot, S.deep, S.haul, S.rest⟩
theorem Sh.Ok.first {S : Sh} (h : S.Ok) {d : Nat} (hd : d ≤ S.nf) : (S.first d).Ok :=
  ⟨h.nr, Nat.le_trans hd h.nf, h.rock, fun i hi => h.f0 i (Nat.lt_of_lt_of_le hi hd), fun i hi => h.f1 i (Nat.lt_of_lt_of_le hi hd), h.d0, h.d1, h.l0, h.l1, h.r0, h.r1⟩
theorem IntsAt.first {w : World} {A : Option Addr} {n m : Nat} {g : Nat → Int} (h : IntsAt w A n g) (hm : m ≤ n) : IntsAt w A m g := by
  rcases h with h | ⟨b, o, rfl, hlt, hc⟩
  · exact .inl (by omega)
  · exact .inr ⟨b, o, rfl, hlt, fun i hi => hc i (by omega)⟩
theorem ShAt.first {w : World} {Ar Af : Option Addr} {S : Sh} (h : ShAt w Ar Af S) {d : Nat} (hd : d ≤ S.nf) : ShAt w Ar Af (S.first d) := ⟨h.rocks, h.feet.first hd⟩
open Classical in
/-- the greatest number of feet, up to d, for which there is a plan that costs so many pence at the most -/
noncomputable def Sh.deepTo (S : Sh) (p : Int) : Nat → Nat
  | 0 => 0
  | d + 1 => if (S.first (d + 1)).cheapOut.2 = 0 ∧ (S.first (d + 1)).cheapOut.1 ≤ p then d + 1 else S.deepTo p d
open Classical in
noncomputable def Sh.deepOut (S : Sh) (p : Int) : Int × Int := if ¬ S.Ok then (0, 20) else if inR p 0 9999 = false then (0, 1) else ((S.deepTo p S.nf : Int), 0)
theorem deepOut_bad {S : Sh} {p : Int} (h : ¬ S.Ok) : S.deepOut p = (0, 20) := if_pos h
theorem deepOut_arg {S : Sh} {p : Int} (h : S.Ok) (h2 : inR p 0 9999 = false) : S.deepOut p = (0, 1) := by unfold Sh.deepOut; rw [if_neg (not_not_intro h), if_pos h2]
theorem deepOut_ok {S : Sh} {p : Int} (h : S.Ok) (h2 : inR p 0 9999 = true) : S.deepOut p = ((S.deepTo p S.nf : Int), 0) := by unfold Sh.deepOut; rw [if_neg (not_not_intro h), if_neg (by rw [h2]; simp)]
set_option maxHeartbeats 4000000 in
set_option maxRecDepth 100000 in
theorem Deep_any (Ar Af : Option Addr) (cr cf : Nat) (S : Sh) (p : Int) (w : World) (hr : S.nr ≤ 9223372036854775807) (hf : S.nf ≤ 9223372036854775807) (hcap : S.nf ≤ cf) (_ : cf ≤ 9223372036854775807) (hS : ShAt w Ar Af S) (hN : NoneAt w) :
    Calls Tryd.prog 45 #[.agg #[.slice Ar S.nr cr, .slice Af S.nf cf, .int .i64 S.deep, .int .i64 S.haul, .int .i64 S.rest], .int .i64 p] w fun e w' => e = .returned (.tuple #[.int .i64 (S.deepOut p).1, .int .i64 (S.deepOut p).2]) ∧ Below w.heap.size w w' := by
  have hb0 := bAlloc (Below.refl w.heap.size w) (.cells #[.slice Ar S.nr cr, .slice Af S.nf cf, .int .i64 S.deep, .int .i64 S.haul, .int .i64 S.rest] 25)
  have HS := Lib.hid (hS.mono hb0)
  have HN := Lib.hid (hN.mono hb0)
  have HB := Lib.hid hb0
  clear hS hb0 hN
  by_cases hok : S.Ok
  · cases hin : inR p 0 9999
    · have HE := Lib.hid (deepOut_arg hok hin)
      go_enter Tryd.func45, Tryd.ntmps45
      go_wp2_with fail
      refine wp_region_new 7 8 6 17 75 #[.slice none 0 0, .slice none 0 0, .int .i64 0, .int .i64 0, .int .i64 0] (by kernel_rfl) (by kernel_rfl) (by rfl) (by rfl) (by rfl) (by rfl) (by rfl) (by rfl) (fun _ => by kernel_rfl) (by kernel_rfl) (by simp) ?_
      repeat (first | (refine wpCalm_skip rfl ?_) | (refine wpCalm_step rfl (fun K hK => ?_); go_simp; (first | (refine hK _ ?_; clear hK K) | (apply Exists.intro; refine ⟨fun _ => ?_, hK _ ?_⟩; ((first | (go_at_call 62; exact within_q _ _ _ _) | (go_at_call 67; exact open_no _ _ _ _ S _ _ hr hf (HS.out.mono (below_regrown _ _ _)) 1 (.inr ⟨hok, rfl, rfl⟩)))); clear hK K))))
      refine wpCalm_nil ?_
      refine ⟨#[.slice none 0 0, .slice none 0 0, .int .i64 0, .int .i64 0, .int .i64 0], rfl, rfl, by simp [Value.oneCell'], ?_⟩
      intro b w1 hb1 hbb hb2 hblk
      have hbc : ∀ i, World.cell? w1 ⟨b, i, none⟩ = (#[.slice none 0 0, .slice none 0 0, .int .i64 0, .int .i64 0, .int .i64 0] : Array Value)[i]? := fun i => cell_of_row w1 b i _ _ _ hblk
      simp only [Act.put, List.setIfInBounds_toArray, List.set_cons_succ, List.set_cons_zero]
      go_wp2_with fail
      go_ret2
      exact ⟨by rw [HE.out]; rfl, by (repeat (first | (with_reducible exact Below.refl _ _) | (with_reducible refine bAlloc ?_ _) | (with_reducible refine bDrew ?_) | (with_reducible refine bGrow ?_ _ _) | (with_reducible refine bSet ?_ ?_ _; (first | exact Nat.le_refl _ | exact Nat.le_add_right _ _ | (simp; omega))) | (with_reducible refine bTrans ?_ (by assumption))))⟩
    · have HE := Lib.hid (deepOut_ok hok hin)
      have hnf := hok.nf
      go_enter Tryd.func45, Tryd.ntmps45
      go_wp2_with fail
      refine wp_region_new 7 8 6 17 75 #[.slice none 0 0, .slice none 0 0, .int .i64 0, .int .i64 0, .int .i64 0] (by kernel_rfl) (by kernel_rfl) (by rfl) (by rfl) (by rfl) (by rfl) (by rfl) (by rfl) (fun _ => by kernel_rfl) (by kernel_rfl) (by simp) ?_
      repeat (first | (refine wpCalm_skip rfl ?_) | (refine wpCalm_step rfl (fun K hK => ?_); go_simp; (first | (refine hK _ ?_; clear hK K) | (apply Exists.intro; refine ⟨fun _ => ?_, hK _ ?_⟩; ((first | (go_at_call 62; exact within_q _ _ _ _) | (go_at_call 67; exact open_yes _ _ _ _ S _ hok (HS.out.mono (below_regrown _ _ _))))); clear hK K))))
      refine wpCalm_nil ?_
      refine ⟨#[.slice Ar S.nr cr, .slice Af S.nf cf, .int .i64 S.deep, .int .i64 S.haul, .int .i64 S.rest], rfl, rfl, by simp [Value.oneCell'], ?_⟩
      intro b w1 hb1 hbb hb2 hblk
      have hbc : ∀ i, World.cell? w1 ⟨b, i, none⟩ = (#[.slice Ar S.nr cr, .slice Af S.nf cf, .int .i64 S.deep, .int .i64 S.haul, .int .i64 S.rest] : Array Value)[i]? := fun i => cell_of_row w1 b i _ _ _ hblk
      simp only [Act.put, List.setIfInBounds_toArray, List.set_cons_succ, List.set_cons_zero]
      obtain ⟨bc1, bf1⟩ := bcell hb1
      have hz1 := hb1.size
      simp only [World.size_alloc] at hz1
      have hy1 : w.heap.size < w1.heap.size := hz1
      go_wp2_with fail
      have HB1 := Lib.hid hb1
      clear bc1 bf1 hb1 hbc hblk
      go_loopw [8] (fun i wr => ∃ d : Nat, d ≤ S.nf ∧ i = .int .i64 d ∧ S.deepTo p S.nf = S.deepTo p d ∧ Below (w.alloc (.cells #[.slice Ar S.nr cr, .slice Af S.nf cf, .int .i64 S.deep, .int .i64 S.haul, .int .i64 S.rest] 25)).heap.size (w.alloc (.cells #[.slice Ar S.nr cr, .slice Af S.nf cf, .int .i64 S.deep, .int .i64 S.haul, .int .i64 S.rest] 25)) wr) (fun i _ => (intOf i).toNat)
      case atStart => exact ⟨S.nf, Nat.le_refl _, rfl, rfl, HB1.out⟩
      case round =>
        obtain ⟨d, hd, rfl, hde, hB⟩ := hrel
        have HD := Lib.hid hde
        clear hde
        obtain ⟨bc, bf⟩ := bcell hB
        have hz := hB.size
        simp only [World.size_alloc] at hz
        have hy : w.heap.size < wr.heap.size := hz
        have HBR := Lib.hid hB
        have HSR := Lib.hid (HS.out.mono hB)
        have HNR := Lib.hid (HN.out.mono hB)
        clear hB
        by_cases hpos : 0 < d
        · obtain ⟨k, rfl⟩ : ∃ k, d = k + 1 := ⟨d - 1, by omega⟩
          obtain ⟨n, e, hce⟩ : ∃ n e, (S.first (k + 1)).cheapOut = (n, e) := ⟨_, _, rfl⟩
          have HCE := Lib.hid hce
          clear hce
          have HBR2 := Lib.hid (bTrans HB.out HBR.out)
          by_cases he0 : e = 0
          · subst he0
            by_cases hn : n ≤ p
            · have hn2 : decide (n ≤ p) = true := decide_eq_true hn
              go_wp2_with (go_at_call 24; refine (Cheap_any Ar Af cr cf (S.first (k + 1)) _ hr (Nat.le_trans hd hf) ((HSR.out.first hd).mono (bAlloc (Below.refl _ _) _)) (HNR.out.mono (bAlloc (Below.refl _ _) _))).mono ?_; rintro e1 w2 ⟨he1, hb2⟩; rw [HCE.out] at he1; subst he1)
              go_ret2
              have hbr := HBR2.out
              exact ⟨by rw [HE.out, HD.out, show S.deepTo p (k + 1) = k + 1 from by unfold Sh.deepTo; rw [HCE.out, if_pos ⟨rfl, hn⟩]]; rfl, by (repeat (first | (with_reducible exact Below.refl _ _) | (with_reducible refine bAlloc ?_ _) | (with_reducible refine bDrew ?_) | (with_reducible refine bGrow ?_ _ _) | (with_reducible refine bSet ?_ ?_ _; (first | exact Nat.le_refl _ | exact Nat.le_add_right _ _ | (simp; omega))) | (with_reducible refine bTrans ?_ (by assumption))))⟩
            · have hn2 : decide (n ≤ p) = false := decide_eq_false hn
              go_wp2_with (go_at_call 24; refine (Cheap_any Ar Af cr cf (S.first (k + 1)) _ hr (Nat.le_trans hd hf) ((HSR.out.first hd).mono (bAlloc (Below.refl _ _) _)) (HNR.out.mono (bAlloc (Below.refl _ _) _))).mono ?_; rintro e1 w2 ⟨he1, hb2⟩; rw [HCE.out] at he1; subst he1)
              have hbr := bTrans (bAlloc HBR.out _) hb2
              go_roundw
              case rel => exact ⟨k, by omega, by go_num, HD.out.trans (by rw [Sh.deepTo, HCE.out, if_neg (fun h => by have h2 : n ≤ p := h.2; omega)]), hbr⟩
              case measure => simp [intOf] <;> omega
          · have he2 : (e == 0) = false := by simp [he0]
            go_wp2_with (go_at_call 24; refine (Cheap_any Ar Af cr cf (S.first (k + 1)) _ hr (Nat.le_trans hd hf) ((HSR.out.first hd).mono (bAlloc (Below.refl _ _) _)) (HNR.out.mono (bAlloc (Below.refl _ _) _))).mono ?_; rintro e1 w2 ⟨he1, hb2⟩; rw [HCE.out] at he1; subst he1)
            have hbr := bTrans (bAlloc HBR.out _) hb2
            go_roundw
            case rel => exact ⟨k, by omega, by go_num, HD.out.trans (by rw [Sh.deepTo, HCE.out, if_neg (fun h => he0 h.1)]), hbr⟩
            case measure => simp [intOf] <;> omega
        · obtain rfl : d = 0 := by omega
          go_wp2_with fail
          go_ret2
          exact ⟨by rw [HE.out, HD.out]; rfl, bTrans HB.out HBR.out⟩
  · have HE := Lib.hid (deepOut_bad (p := p) hok)
    go_enter Tryd.func45, Tryd.ntmps45
    go_wp2_with fail
    refine wp_region_new 7 8 6 17 75 #[.slice none 0 0, .slice none 0 0, .int .i64 0, .int .i64 0, .int .i64 0] (by kernel_rfl) (by kernel_rfl) (by rfl) (by rfl) (by rfl) (by rfl) (by rfl) (by rfl) (fun _ => by kernel_rfl) (by kernel_rfl) (by simp) ?_
    repeat (first | (refine wpCalm_skip rfl ?_) | (refine wpCalm_step rfl (fun K hK => ?_); go_simp; (first | (refine hK _ ?_; clear hK K) | (apply Exists.intro; refine ⟨fun _ => ?_, hK _ ?_⟩; ((first | (go_at_call 62; exact within_q _ _ _ _) | (go_at_call 67; exact open_no _ _ _ _ S _ _ hr hf (HS.out.mono (below_regrown _ _ _)) 20 (.inl ⟨hok, rfl⟩)))); clear hK K))))
    refine wpCalm_nil ?_
    refine ⟨#[.slice none 0 0, .slice none 0 0, .int .i64 0, .int .i64 0, .int .i64 0], rfl, rfl, by simp [Value.oneCell'], ?_⟩
    intro b w1 hb1 hbb hb2 hblk
    have hbc : ∀ i, World.cell? w1 ⟨b, i, none⟩ = (#[.slice none 0 0, .slice none 0 0, .int .i64 0, .int .i64 0, .int .i64 0] : Array Value)[i]? := fun i => cell_of_row w1 b i _ _ _ hblk
    simp only [Act.put, List.setIfInBounds_toArray, List.set_cons_succ, List.set_cons_zero]
    go_wp2_with fail
    go_ret2
    exact ⟨by rw [HE.out]; rfl, by (repeat (first | (with_reducible exact Below.refl _ _) | (with_reducible refine bAlloc ?_ _) | (with_reducible refine bDrew ?_) | (with_reducible refine bGrow ?_ _ _) | (with_reducible refine bSet ?_ ?_ _; (first | exact Nat.le_refl _ | exact Nat.le_add_right _ _ | (simp; omega))) | (with_reducible refine bTrans ?_ (by assumption))))⟩
end Go.Proofs.YtbbnpneabmldnaaDoor
