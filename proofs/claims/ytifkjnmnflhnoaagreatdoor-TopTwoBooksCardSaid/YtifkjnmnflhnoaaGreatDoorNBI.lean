/- Parts joined: what all claims of this seat need. -/
import Derived.Test.YtifkjnmnflhnoaaGreatDoorNBH
import Derived.Test.YtifkjnmnflhnoaaGreatDoorNBE
import Derived.Test.YtifkjnmnflhnoaaGreatDoorNBB
import Derived.Test.YtifkjnmnflhnoaaGreatDoorNBG
import Derived.Test.YtifkjnmnflhnoaaGreatDoorNBF
import Derived.Test.YtifkjnmnflhnoaaGreatDoorNBD
set_option linter.unusedSimpArgs false
set_option linter.unusedVariables false
namespace Go.Proofs.YtifkjnmnflhnoaaGreatDoor
open Go.RowKit Go.Sort
/-! ### slices that a region has built -/
def slS (n : Nat) (v : Value) : Prop := ∃ b, v = .slice (some ⟨b, 0, none⟩) n n
def slR (n : Nat) (xs : List Value) (w : World) (v : Value) : Prop := ∀ b, v = .slice (some ⟨b, 0, none⟩) n n → b < w.heap.size ∧ ∀ i u, xs[i]? = some u → w.cell? ⟨b, i, none⟩ = some u
theorem slG {n : Nat} {xs : List Value} : (Stir.held (slS n) (slR n xs)).good := ⟨⟨_, 0, rfl⟩, fun _ _ _ hb h b e => ⟨Nat.lt_of_lt_of_le (h b e).1 hb.size, fun i u hu => (hb.cell (p := ⟨b, i, none⟩) (h b e).1).trans ((h b e).2 i u hu)⟩⟩
theorem slR_new (n : Nat) (w : World) (cs : Array Value) (T : TypeId) : slR n cs.toList (w.alloc (.cells cs T)) (.slice (some ⟨w.heap.size, 0, none⟩) n n) := fun b e => by
  obtain rfl : w.heap.size = b := by simpa using e
  have h := TBox.new w cs T
  exact ⟨h.lt, fun i u hu => (h.cell i).trans (by simpa using hu)⟩
def eqS (c v : Value) : Prop := v = c
theorem eqG {c : Value} : (Stir.held (eqS c) anyR).good := ⟨⟨_, rfl⟩, fun _ _ _ _ _ => trivial⟩
/-! ### numbers of two digits -/
def two (x y : Int) : Nat → Int := fun j => if j = 0 then x else y
theorem num_two (base x y : Int) : numF base (two x y) 2 = x * base + y := by
  show (0 * base + x) * base + y = _
  rw [Int.zero_mul, Int.zero_add]
theorem number2_any (b : Nat) (base x y : Int) (w : World) (hb : 2 ≤ base ∧ base ≤ 10) (hx : 0 ≤ x ∧ x ≤ 100000) (hy : 0 ≤ y ∧ y ≤ 100) (h : slR 2 [.int .i64 x, .int .i64 y] w (.slice (some ⟨b, 0, none⟩) 2 2)) :
    Calls Tryz.prog 96 #[.int .i64 base, .slice (some ⟨b, 0, none⟩) 2 2] w fun e w' => e = .returned (.int .i64 (x * base + y)) ∧ Below w.heap.size w w' := by
  obtain ⟨hl, hc⟩ := h b rfl
  have hI : IntsAt w (some ⟨b, 0, none⟩) 2 (two x y) := .inr ⟨b, 0, rfl, hl, fun i hi => by
    rw [Nat.zero_add]
    match i, hi with
    | 0, _ => exact hc 0 _ rfl
    | 1, _ => exact hc 1 _ rfl⟩
  have h2 : 0 ≤ x * base ∧ x * base ≤ 1000000 := ⟨Int.mul_nonneg hx.1 (by omega), Int.le_trans (Int.mul_le_mul hx.2 hb.2 (by omega) (by omega)) (by decide)⟩
  have H := numberK_any (some ⟨b, 0, none⟩) 2 2 base (two x y) w (by omega) hb (fun j hj => by unfold two; split <;> omega) (fun j hj => by
    match j, hj with
    | 0, _ => exact ⟨Int.le_refl _, (by decide : (0 : Int) ≤ 1000000000)⟩
    | 1, _ =>
      show 0 ≤ 0 * base + x ∧ 0 * base + x ≤ _
      rw [Int.zero_mul, Int.zero_add]
      omega
    | 2, _ => rw [num_two]; omega) hI
  rw [num_two] at H
  exact H
/-! ### ends -/
def endsF (base : Int) (f : Nat → Int × Int) : Nat → Int × Int
  | 0 => (0, 0)
  | k + 1 => ((endsF base f k).1 * base + (f k).1, (endsF base f k).2 * base + (f k).2)
theorem ends_bd {base : Int} {f : Nat → Int × Int} {n : Nat} (hb : 2 ≤ base ∧ base ≤ 10) (hf : CordOk base n f) : ∀ k, k ≤ n → (0 ≤ (endsF base f k).1 ∧ (endsF base f k).1 ≤ 10 ^ k - 1) ∧ 0 ≤ (endsF base f k).2 ∧ (endsF base f k).2 ≤ 10 ^ k - 1
  | 0, _ => ⟨⟨Int.le_refl _, Int.le_refl _⟩, Int.le_refl _, Int.le_refl _⟩
  | k + 1, h => by
    obtain ⟨⟨a1, a2⟩, a3, a4⟩ := ends_bd hb hf k (by omega)
    obtain ⟨b1, b2, b3⟩ := hf k (by omega)
    have e : (10 : Int) ^ (k + 1) = 10 ^ k * 10 := Int.pow_succ _ _
    have m1 : 0 ≤ (endsF base f k).1 * base := Int.mul_nonneg a1 (by omega)
    have m2 : 0 ≤ (endsF base f k).2 * base := Int.mul_nonneg a3 (by omega)
    have m3 : (endsF base f k).1 * base ≤ (endsF base f k).1 * 10 := Int.mul_le_mul_of_nonneg_left hb.2 a1
    have m4 : (endsF base f k).2 * base ≤ (endsF base f k).2 * 10 := Int.mul_le_mul_of_nonneg_left hb.2 a3
    show (0 ≤ (endsF base f k).1 * base + (f k).1 ∧ (endsF base f k).1 * base + (f k).1 ≤ 10 ^ (k + 1) - 1) ∧ 0 ≤ (endsF base f k).2 * base + (f k).2 ∧ (endsF base f k).2 * base + (f k).2 ≤ 10 ^ (k + 1) - 1
    rw [e]
    omega
theorem ends_bd4 {base : Int} {f : Nat → Int × Int} {n : Nat} (hb : 2 ≤ base ∧ base ≤ 10) (hf : CordOk base n f) (hn : n ≤ 4) {k : Nat} (hk : k ≤ n) : (0 ≤ (endsF base f k).1 ∧ (endsF base f k).1 ≤ 9999) ∧ 0 ≤ (endsF base f k).2 ∧ (endsF base f k).2 ≤ 9999 := by
  obtain ⟨⟨a1, a2⟩, a3, a4⟩ := ends_bd hb hf k hk
  have e : (10 : Int) ^ k - 1 ≤ 9999 := by
    match k, (show k ≤ 4 by omega) with
    | 0, _ => decide
    | 1, _ => decide
    | 2, _ => decide
    | 3, _ => decide
    | 4, _ => decide
  exact ⟨⟨a1, Int.le_trans a2 e⟩, a3, Int.le_trans a4 e⟩
set_option maxHeartbeats 4000000 in
set_option maxRecDepth 100000 in
theorem ends_any (A : Option Addr) (n c : Nat) (base : Int) (f : Nat → Int × Int) (w : World) (hn : n ≤ 4) (hb : 2 ≤ base ∧ base ≤ 10) (hf : CordOk base n f) (hS : SpsAt w A n f) :
    Calls Tryz.prog 81 #[.int .i64 base, .slice A n c] w fun e w' => e = .returned (.agg #[.int .i64 (endsF base f n).1, .int .i64 (endsF base f n).2]) ∧ Below w.heap.size w w' := by
  have HB := Lib.hid hb
  have HF := Lib.hid hf
  have HS := Lib.hid hS
  have HBD := Lib.hid (fun (k : Nat) (hk : k ≤ n) => ends_bd4 hb hf hn hk)
  have HB1 := Lib.hid (bAlloc (Below.refl w.heap.size w) (.cells #[.int .i64 0, .int .i64 0] 43))
  have HR := Lib.hid (TBox.new w #[.int .i64 0, .int .i64 0] 43)
  clear hb hf hS
  go_enter Tryz.func81, Tryz.ntmps81
  go_wp2_with fail
  go_loopw [10] (fun s wr => ∃ k : Nat, k ≤ n ∧ s = .int .i64 (k : Int) ∧ TBox wr (w.heap.size + 1) 43 #[.int .i64 (endsF base f k).1, .int .i64 (endsF base f k).2] ∧ Below (w.alloc (.cells #[.int .i64 0, .int .i64 0] 43)).heap.size (w.alloc (.cells #[.int .i64 0, .int .i64 0] 43)) wr) (fun s _ => n - (intOf s).toNat)
  case atStart => exact ⟨0, Nat.zero_le _, rfl, by have := TBox.new (w.alloc (.cells #[.int .i64 0, .int .i64 0] 43)) #[.int .i64 0, .int .i64 0] 43; rw [World.size_alloc] at this; exact this, bAlloc (Below.refl _ _) _⟩
  case round =>
    obtain ⟨k, hk, rfl, hbx, hbel⟩ := hrel
    have HX := Lib.hid hbx
    have HL := Lib.hid hbel
    have HL0 := Lib.hid (bTrans HB1.out hbel)
    have k0 : (0 : Int) ≤ (k : Int) := by omega
    obtain ⟨⟨a1, a2⟩, a3, a4⟩ := HBD.out k hk
    by_cases hlt : k < n
    · have k1 : (k : Int) < (n : Int) := by omega
      obtain ⟨f1, f2, f3⟩ := HF.out k hlt
      have hbb := HB.out
      rcases (HS.out.mono HL0.out) with h0 | ⟨b, o, rfl, hl, hc⟩
      · omega
      obtain ⟨c0, c1⟩ := hc k hlt
      have HST := Lib.hid (show endsF base f (k + 1) = ((endsF base f k).1 * base + (f k).1, (endsF base f k).2 * base + (f k).2) from rfl)
      obtain ⟨u, hu⟩ : ∃ u, endsF base f k = u := ⟨_, rfl⟩
      obtain ⟨v, hv⟩ : ∃ v, f k = v := ⟨_, rfl⟩
      rw [hu] at HX a1 a2 a3 a4
      rw [hv] at c0 c1 f1 f2 f3
      rw [hu, hv] at HST
      have HV := Lib.hid (show (0 ≤ v.1 ∧ v.1 ≤ 100) ∧ 0 ≤ v.2 ∧ v.2 ≤ 100 by omega)
      have HU := Lib.hid (show (0 ≤ u.1 ∧ u.1 ≤ 100000) ∧ 0 ≤ u.2 ∧ u.2 ≤ 100000 by omega)
      obtain ⟨x0, x1, xl⟩ := HX.out.c2
      have hz1 : w.heap.size < wr.heap.size := by omega
      clear hbx hbel hc hu hv a1 a2 a3 a4 f1 f2 f3 hbb
      go_wp2_with fail
      refine wp_region_stir 14 [.const (.int .i64 base), .const (.pointer (some ⟨w.heap.size + 1, 0, none⟩)), .const (.int .i64 u.1), .const (.pointer (some ⟨wr.heap.size, 0, none⟩)), .const (.int .i64 v.1), .held (slS 2) (slR 2 [.int .i64 u.1, .int .i64 v.1]), .held (eqS (.int .i64 (u.1 * base + v.1))) anyR,
        .const (.int .i64 base), .const (.pointer (some ⟨w.heap.size + 1, 1, none⟩)), .const (.int .i64 u.2), .const (.pointer (some ⟨wr.heap.size, 1, none⟩)), .const (.int .i64 v.2), .held (slS 2) (slR 2 [.int .i64 u.2, .int .i64 v.2]), .held (eqS (.int .i64 (u.2 * base + v.2))) anyR] (by kernel_rfl) (by kernel_rfl) rfl ⟨trivial, trivial, trivial, trivial, trivial, slG, eqG, trivial, trivial, trivial, trivial, trivial, slG, eqG, trivial⟩ (crossAll_no _ _ _ _ trivial) ?_
      iterate 5 refine wpStir_const (by go_simp) ?_
      refine wpStir_held rfl (fun w' hb' hd => ?_) (fun v' hv' => ?_)
      · clear hd
        go_simp
        exact ⟨bAlloc (Below.refl _ _) _, ⟨_, rfl⟩, slR_new 2 w' #[.int .i64 u.1, .int .i64 v.1] 3⟩
      obtain ⟨b1, rfl⟩ := hv'
      simp only [Act.put, List.setIfInBounds_toArray, List.set_cons_succ, List.set_cons_zero]
      refine wpStir_held rfl (fun w' hb' hd => ?_) (fun v' hv' => ?_)
      · have h1 := hd.1 (by kernel_rfl)
        clear hd
        go_simp
        refine (number2_any b1 base u.1 v.1 w' HB.out HU.out.1 HV.out.1 h1).mono ?_
        rintro e w'' ⟨rfl, hb2⟩
        exact ⟨_, rfl, hb2, rfl, trivial⟩
      obtain rfl := hv'
      simp only [Act.put, List.setIfInBounds_toArray, List.set_cons_succ, List.set_cons_zero]
      iterate 5 refine wpStir_const (by go_simp) ?_
      refine wpStir_held rfl (fun w' hb' hd => ?_) (fun v' hv' => ?_)
      · clear hd
        go_simp
        exact ⟨bAlloc (Below.refl _ _) _, ⟨_, rfl⟩, slR_new 2 w' #[.int .i64 u.2, .int .i64 v.2] 3⟩
      obtain ⟨b2, rfl⟩ := hv'
      simp only [Act.put, List.setIfInBounds_toArray, List.set_cons_succ, List.set_cons_zero]
      refine wpStir_held rfl (fun w' hb' hd => ?_) (fun v' hv' => ?_)
      · have h1 := hd.1 (by kernel_rfl)
        clear hd
        go_simp
        refine (number2_any b2 base u.2 v.2 w' HB.out HU.out.2 HV.out.2 h1).mono ?_
        rintro e w'' ⟨rfl, hb2⟩
        exact ⟨_, rfl, hb2, rfl, trivial⟩
      obtain rfl := hv'
      refine wpStir_end (fun w5 hb5 hd => ?_)
      clear hd
      simp only [List.drop_succ_cons, List.drop_zero]
      simp only [Act.put, List.setIfInBounds_toArray, List.set_cons_succ, List.set_cons_zero]
      have hb6 : Below wr.heap.size wr w5 := bTrans (bAlloc (Below.refl _ _) (.cells #[.int .i64 v.1, .int .i64 v.2] 43)) hb5
      have HX5 := Lib.hid (HX.out.mono hb6)
      have HL5 := Lib.hid (bTrans HL.out hb6)
      clear x0 x1 xl hb5 hb6 c0 c1
      obtain ⟨x0, x1, xl⟩ := HX5.out.c2
      have xf0 := HX5.out.frozen 0
      have xf1 := HX5.out.frozen 1
      go_wp2_with fail
      go_roundw
      case rel =>
        refine ⟨k + 1, by omega, by go_num, ?_, Below.setCell (p := ⟨w.heap.size + 1, 1, none⟩) (Below.setCell (p := ⟨w.heap.size + 1, 0, none⟩) HL5.out (by simp) _) (by simp) _⟩
        rw [HST.out]
        have h := (HX5.out.set 0 (.int .i64 (u.1 * base + v.1))).set 1 (.int .i64 (u.2 * base + v.2))
        simpa using h
      case measure => simp [intOf]; omega
    · obtain rfl : k = n := by omega
      have HR5 := Lib.hid (HR.out.mono hbel)
      obtain ⟨r0, r1, rl⟩ := HR5.out.c2
      have rf0 := HR5.out.frozen 0
      have rf1 := HR5.out.frozen 1
      obtain ⟨x0, x1, xl⟩ := HX.out.c2
      clear hbx
      go_wp2_with fail
      refine bodyPost_ret (v := .agg #[.int .i64 (endsF base f k).1, .int .i64 (endsF base f k).2]) (by simp [results, Tryz.results81, go_sem, *]) rfl ⟨rfl, ?_⟩
      exact Below.setCell (p := ⟨w.heap.size, 1, none⟩) (Below.setCell (p := ⟨w.heap.size, 0, none⟩) HL0.out (Nat.le_refl _) _) (Nat.le_refl _) _
end Go.Proofs.YtifkjnmnflhnoaaGreatDoor

namespace Go.Proofs.YtifkjnmnflhnoaaGreatDoor
open Go.RowKit Go.Sort
section
variable {P : Program} {ops : Array Oper} {md : Region.Mode}
end
end Go.Proofs.YtifkjnmnflhnoaaGreatDoor

namespace Go.Proofs.YtifkjnmnflhnoaaGreatDoor
open Go.RowKit Go.Sort
def crE (pl : Nat) : Elem Crd := { enc := fun x => [.slice x.ca pl x.cc], size := 1, ty := 46, sl := 68, z := .slice none 0 0, bytes := 24 }
theorem crG (pl : Nat) : (crE pl).Good :=
  ⟨by kernel_rfl, Tryz.underlying68, rfl, Nat.one_pos, fun _ => rfl, fun x u hu => by
    obtain rfl : u = .slice x.ca pl x.cc := by simpa [crE] using hu
    rfl, (by decide : 24 ≤ 1000000)⟩
def crdL (g : Nat → Crd) (n : Nat) : List Crd := (List.range n).map g
theorem crdL_len (g : Nat → Crd) (n : Nat) : (crdL g n).length = n := by unfold crdL; simp
theorem crdL_get (g : Nat → Crd) {n j : Nat} (h : j < n) : (crdL g n)[j]? = some (g j) := by unfold crdL; simp [h]
theorem crd_cell (pl : Nat) {l : List Crd} {j : Nat} {x : Crd} (h : l[j]? = some x) : ((crE pl).cells l)[j]? = some (.slice x.ca pl x.cc) := by
  have h1 := Elem.cells_get (crG pl) (l := l) (j := j) (x := x) 0 h Nat.one_pos
  rw [show (crE pl).size = 1 from rfl, Nat.mul_one, Nat.add_zero] at h1
  exact h1
theorem CrdsAt.row {w : World} {A : Option Addr} {n pl : Nat} {g : Nat → Crd} (h : CrdsAt w A n pl g) : RowAt w A ((crE pl).cells (crdL g n)) := by
  rcases h with rfl | ⟨b, o, rfl, hlt, hc⟩
  · exact .inl rfl
  · refine .inr ⟨b, o, rfl, hlt, fun j v hj => ?_⟩
    have hl : j < n := by
      have := (List.getElem?_eq_some_iff.1 hj).1
      rw [Elem.cells_len (crG pl), crdL_len, show (crE pl).size = 1 from rfl, Nat.mul_one] at this
      exact this
    rw [crd_cell pl (crdL_get g hl)] at hj
    obtain rfl := Option.some.inj hj
    exact (hc j hl).1
def ptS (i : Nat) (v : Value) : Prop := ∃ a, v = .pointer (some ⟨a, i, none⟩)
def ptR (i : Nat) (u : Value) (w : World) (v : Value) : Prop := ∀ a, v = .pointer (some ⟨a, i, none⟩) → a < w.heap.size ∧ w.cell? ⟨a, i, none⟩ = some u
theorem ptG {i : Nat} {u : Value} : (Stir.held (ptS i) (ptR i u)).good := ⟨⟨_, 0, rfl⟩, fun _ _ _ hb h a e => ⟨Nat.lt_of_lt_of_le (h a e).1 hb.size, (hb.cell (p := ⟨a, i, none⟩) (h a e).1).trans (h a e).2⟩⟩
def AllOut (w : World) (k : Kb) (e : Ending) : Prop := ∃ a c, e = .returned (.slice (some ⟨a, 0, none⟩) (k.n + 1) c) ∧ a < w.heap.size ∧ ∀ i, i < k.n → w.cell? ⟨a, i, none⟩ = some (.slice (k.g i).ca k.pl (k.g i).cc)
theorem allG {k : Kb} : (Stir.held (ShapeOf (k.n + 1)) (fun w v => AllOut w k (.returned v))).good := ⟨⟨_, 0, 0, rfl⟩, fun _ _ _ hb h => by
  obtain ⟨a, c, e, hl, hc⟩ := h
  exact ⟨a, c, e, Nat.lt_of_lt_of_le hl hb.size, fun i hi => (hb.cell (p := ⟨a, i, none⟩) hl).trans (hc i hi)⟩⟩
set_option maxHeartbeats 4000000 in
set_option maxRecDepth 100000 in
theorem allK_any (k : Kb) (w : World) (ok : k.Ok) (hT : KbAt w k) (hA : k.a = none → k.n = 0) (hc : k.n ≤ k.c ∧ k.c ≤ 9223372036854775807) :
    Calls Tryz.prog 82 #[.agg #[.int .i64 k.base, .int .i64 (k.pl : Int), .slice k.a k.n k.c, .slice k.top.ca k.pl k.top.cc]] w fun e w' => AllOut w' k e ∧ Below w.heap.size w w' := by
  have n1 : (k.n : Int) ≤ (k.c : Int) := by omega
  have n0 : (0 : Int) ≤ (k.n : Int) := by omega
  have HC := Lib.hid hc
  clear hc
  have HD0 := Lib.hid (Below.refl w.heap.size w)
  have HOK := Lib.hid ok
  have HT0 := Lib.hid hT
  have HA := Lib.hid hA
  clear ok hT hA
  go_enter Tryz.func82, Tryz.ntmps82
  have HK := Lib.hid (TBox.new w #[.int .i64 k.base, .int .i64 (k.pl : Int), .slice k.a k.n k.c, .slice k.top.ca k.pl k.top.cc] 70)
  obtain ⟨K_0, K_1, K_2, K_3, K_l⟩ := HK.out.c4
  have HTK := Lib.hid (HT0.out.mono (bAlloc (Below.refl _ _) (.cells #[.int .i64 k.base, .int .i64 (k.pl : Int), .slice k.a k.n k.c, .slice k.top.ca k.pl k.top.cc] 70)))
  go_wp2_with fail
  refine wp_region_stir 13 [.const (.pointer (some ⟨w.heap.size, 2, none⟩)), .const (.slice k.a k.n k.c), .const (.pointer (some ⟨w.heap.size, 2, none⟩)), .const (.slice k.a k.n k.c), .const (.int .i64 (k.n : Int)), .const (.pointer (some ⟨w.heap.size, 2, none⟩)), .const (.slice k.a k.n k.c), .const (.int .i64 (k.n : Int)), .const (.slice k.a k.n k.n), .const (.pointer (some ⟨w.heap.size, 3, none⟩)), .const (.slice k.top.ca k.pl k.top.cc), .held (slS 1) (slR 1 [.slice k.top.ca k.pl k.top.cc]), .held (ShapeOf (k.n + 1)) (fun w v => OwnE (crE k.pl) w 0 v (crdL k.g k.n ++ [k.top]))] (by kernel_rfl) (by kernel_rfl) rfl ⟨trivial, trivial, trivial, trivial, trivial, trivial, trivial, trivial, trivial, trivial, trivial, slG, ⟨⟨_, 0, 0, rfl⟩, fun _ _ _ hb h => OwnE.mono h hb⟩, trivial⟩ (crossAll_no _ _ _ _ trivial) ?_
  iterate 11 refine wpStir_const (by go_simp) ?_
  refine wpStir_held rfl (fun w' hb' hd => ?_) (fun v' hv' => ?_)
  · clear hd
    go_simp
    exact ⟨bAlloc (Below.refl _ _) _, ⟨_, rfl⟩, slR_new 1 w' #[.slice k.top.ca k.pl k.top.cc] 46⟩
  obtain ⟨b1, rfl⟩ := hv'
  simp only [Act.put, List.setIfInBounds_toArray, List.set_cons_succ, List.set_cons_zero]
  refine wpStir_held rfl (fun w' hb' hd => ?_) (fun v' hv' => ?_)
  · have h1 := hd.1 (by kernel_rfl) b1 rfl
    clear hd
    rw [show ShapeOf (k.n + 1) = ShapeOf ((crdL k.g k.n).length + 1) by rw [crdL_len]]
    refine stir_full (crG k.pl) w' (Operand.tmp 11) (Operand.tmp 14) rfl k.a (crdL k.g k.n) k.top ?_ (fun e => by rw [HA.out e]; rfl) (HTK.out.cords.row.mono hb') b1 rfl h1.2 (by rw [crdL_len]; have := HOK.out.n; omega) 0 (Nat.zero_le _)
    rw [crdL_len]
    rfl
  obtain ⟨a', c', rfl⟩ := hv'
  refine wpStir_end (fun w1 hb5 hd => ?_)
  have HOW := Lib.hid hd.1
  clear hd
  simp only [List.drop_succ_cons, List.drop_zero]
  simp only [Act.put, List.setIfInBounds_toArray, List.set_cons_succ, List.set_cons_zero]
  have hb := hb5
  clear hb5
  have hB1 : Below w.heap.size w w1 := bTrans (bAlloc (Below.refl _ _) (.cells #[.int .i64 k.base, .int .i64 (k.pl : Int), .slice k.a k.n k.c, .slice k.top.ca k.pl k.top.cc] 70)) hb
  have HD1 := Lib.hid (bTrans HD0.out hB1)
  have HT1 := Lib.hid (HT0.out.mono hB1)
  have HOWN1 := Lib.hid (HOW.out)
  have K1 := Lib.hid (show TBox w1 w.heap.size 70 #[.int .i64 k.base, .int .i64 (k.pl : Int), .slice k.a k.n k.c, .slice k.top.ca k.pl k.top.cc] from by have := ((TBox.new w #[.int .i64 k.base, .int .i64 (k.pl : Int), .slice k.a k.n k.c, .slice k.top.ca k.pl k.top.cc] 70).mono (Below.refl _ _)).mono hb; simpa using this)
  clear hb hB1 HD0 HT0
  obtain ⟨K_0, K_1, K_2, K_3, K_l⟩ := K1.out.c4
  clear HOW
  go_wp2_with fail
  go_ret
  obtain ⟨A1, c1, e1, hr⟩ := HOWN1.out.read
  injection e1 with e1 _ e3
  subst e1 e3
  refine ⟨⟨a', c', rfl, ?_⟩, HD1.out⟩
  rcases hr with hr | ⟨b2, o2, e2, hl2, hc2⟩
  · have := congrArg List.length hr
    rw [Elem.cells_len (crG k.pl), show (crE k.pl).size = 1 from rfl, Nat.mul_one, List.length_append, crdL_len] at this
    simp at this
  · simp only [Option.some.injEq, Addr.mk.injEq, and_true] at e2
    obtain ⟨rfl, rfl⟩ := e2
    refine ⟨hl2, fun i hi => ?_⟩
    have h3 := hc2 i _ (crd_cell k.pl (show (crdL k.g k.n ++ [k.top])[i]? = some (k.g i) by rw [List.getElem?_append_left (by rw [crdL_len]; exact hi)]; exact crdL_get k.g hi))
    rwa [Nat.zero_add] at h3
set_option maxHeartbeats 4000000 in
set_option maxRecDepth 100000 in
theorem cordK_any (k : Kb) (i : Nat) (lo hi : Int) (w : World) (ok : k.Ok) (hT : KbAt w k) (hA : k.a = none → k.n = 0) (hc : k.n ≤ k.c ∧ k.c ≤ 9223372036854775807) (hi9 : i < k.n) (he : endsF k.base (k.g i).sp k.pl = (lo, hi)) :
    Calls Tryz.prog 60 #[.agg #[.int .i64 k.base, .int .i64 (k.pl : Int), .slice k.a k.n k.c, .slice k.top.ca k.pl k.top.cc], .int .i64 (i : Int)] w fun e w' => e = .returned (.tuple #[.agg #[.int .i64 lo, .int .i64 hi], .int .i64 0]) ∧ Below w.heap.size w w' := by
  have HD0 := Lib.hid (Below.refl w.heap.size w)
  have HOK := Lib.hid ok
  have HT0 := Lib.hid hT
  have HA := Lib.hid hA
  have HC := Lib.hid hc
  have HI := Lib.hid hi9
  have HE := Lib.hid he
  clear ok hT hA hc hi9 he
  go_enter Tryz.func60, Tryz.ntmps60
  have HC1 := Lib.hid (fun (w' : World) (hb : Below ((w.alloc (.cells #[.int .i64 k.base, .int .i64 (k.pl : Int), .slice k.a k.n k.c, .slice k.top.ca k.pl k.top.cc] 70)).alloc (.cells #[.int .i64 0, .int .i64 0] 43)).heap.size ((w.alloc (.cells #[.int .i64 k.base, .int .i64 (k.pl : Int), .slice k.a k.n k.c, .slice k.top.ca k.pl k.top.cc] 70)).alloc (.cells #[.int .i64 0, .int .i64 0] 43)) w') => (hasK_any k (i : Int) w' (by have := HI.out; omega) : Calls Tryz.prog 80 #[.agg #[.int .i64 k.base, .int .i64 (k.pl : Int), .slice k.a k.n k.c, .slice k.top.ca k.pl k.top.cc], .int .i64 (i : Int)] w' fun e w'' => e = .returned (.bool true) ∧ Below w'.heap.size w' w''))
  have HC2 := Lib.hid (fun (w' : World) (hb : Below ((w.alloc (.cells #[.int .i64 k.base, .int .i64 (k.pl : Int), .slice k.a k.n k.c, .slice k.top.ca k.pl k.top.cc] 70)).alloc (.cells #[.int .i64 0, .int .i64 0] 43)).heap.size ((w.alloc (.cells #[.int .i64 k.base, .int .i64 (k.pl : Int), .slice k.a k.n k.c, .slice k.top.ca k.pl k.top.cc] 70)).alloc (.cells #[.int .i64 0, .int .i64 0] 43)) w') => (askK_any k w' HOK.out ((HT0.out.mono (bAlloc (bAlloc (Below.refl _ _) (.cells #[.int .i64 k.base, .int .i64 (k.pl : Int), .slice k.a k.n k.c, .slice k.top.ca k.pl k.top.cc] 70)) (.cells #[.int .i64 0, .int .i64 0] 43))).mono hb) : Calls Tryz.prog 45 #[.agg #[.int .i64 k.base, .int .i64 (k.pl : Int), .slice k.a k.n k.c, .slice k.top.ca k.pl k.top.cc], .bool true] w' fun e w'' => e = .returned (.int .i64 0) ∧ Below w'.heap.size w' w''))
  go_wp2_with fail
  refine wp_region_quiet_below (by kernel_rfl) (by kernel_rfl) ?_
  repeat (go_big_quiet_step (((first | (go_at_call 80; with_reducible exact Calls.regrown_of (HC1.out _ (below_regrown _ _ _))) | (go_at_call 45; with_reducible exact Calls.regrown_of (HC2.out _ (below_regrown _ _ _)))))))
  refine wpQuiet_nil ?_
  intro w1 hw9
  have hb := below_of_regrown hw9
  clear hw9
  clear HC1 HC2
  have hB1 : Below w.heap.size w w1 := bTrans (bAlloc (bAlloc (Below.refl _ _) (.cells #[.int .i64 k.base, .int .i64 (k.pl : Int), .slice k.a k.n k.c, .slice k.top.ca k.pl k.top.cc] 70)) (.cells #[.int .i64 0, .int .i64 0] 43)) hb
  have HD1 := Lib.hid (bTrans HD0.out hB1)
  have HT1 := Lib.hid (HT0.out.mono hB1)
  have K1 := Lib.hid (show TBox w1 w.heap.size 70 #[.int .i64 k.base, .int .i64 (k.pl : Int), .slice k.a k.n k.c, .slice k.top.ca k.pl k.top.cc] from by have := ((TBox.new w #[.int .i64 k.base, .int .i64 (k.pl : Int), .slice k.a k.n k.c, .slice k.top.ca k.pl k.top.cc] 70).mono (bAlloc (Below.refl _ _) (.cells #[.int .i64 0, .int .i64 0] 43))).mono hb; simpa using this)
  have R1 := Lib.hid (show TBox w1 (w.heap.size + 1) 43 #[.int .i64 0, .int .i64 0] from by have := ((TBox.new (w.alloc (.cells #[.int .i64 k.base, .int .i64 (k.pl : Int), .slice k.a k.n k.c, .slice k.top.ca k.pl k.top.cc] 70)) #[.int .i64 0, .int .i64 0] 43).mono (Below.refl _ _)).mono hb; simpa using this)
  clear hb hB1 HD0 HT0
  obtain ⟨K_0, K_1, K_2, K_3, K_l⟩ := K1.out.c4
  obtain ⟨R_0, R_1, R_l⟩ := R1.out.c2
  go_wp2_with fail
  have k0 : (0 : Int) ≤ (i : Int) := by omega
  have k1 : (i : Int) < (k.n : Int) + 1 := by have := HI.out; omega
  refine wp_region_stir 8 [.const (.pointer (some ⟨w.heap.size, 0, none⟩)), .const (.int .i64 k.base), .const (.agg #[.int .i64 k.base, .int .i64 (k.pl : Int), .slice k.a k.n k.c, .slice k.top.ca k.pl k.top.cc]), .held (ShapeOf (k.n + 1)) (fun w v => AllOut w k (.returned v)), .const (.int .i64 (i : Int)), .held (ptS i) (ptR i (.slice (k.g i).ca k.pl (k.g i).cc)), .held (eqS (.slice (k.g i).ca k.pl (k.g i).cc)) anyR, .held (eqS (.agg #[.int .i64 lo, .int .i64 hi])) anyR] (by kernel_rfl) (by kernel_rfl) rfl ⟨trivial, trivial, trivial, allG, trivial, ptG, eqG, eqG, trivial⟩ (crossAll_no _ _ _ _ trivial) ?_
  iterate 3 refine wpStir_const (by go_simp) ?_
  refine wpStir_held rfl (fun w' hb' hd => ?_) (fun v' hv' => ?_)
  · clear hd
    go_simp
    refine (allK_any k w' HOK.out (HT1.out.mono hb') HA.out HC.out).mono ?_
    rintro e w'' ⟨⟨a, c, rfl, hl, hc⟩, hb2⟩
    exact ⟨_, rfl, hb2, ⟨a, c, rfl⟩, a, c, rfl, hl, hc⟩
  obtain ⟨a', c', rfl⟩ := hv'
  simp only [Act.put, List.setIfInBounds_toArray, List.set_cons_succ, List.set_cons_zero]
  refine wpStir_const (by go_simp) ?_
  refine wpStir_held rfl (fun w' hb' hd => ?_) (fun v' hv' => ?_)
  · obtain ⟨a, c, e1, hl, hc⟩ := hd.1 (by kernel_rfl)
    clear hd
    simp only [Ending.returned.injEq, Value.slice.injEq, Option.some.injEq, Addr.mk.injEq, and_true, true_and] at e1
    obtain ⟨rfl, rfl⟩ := e1
    go_simp
    refine ⟨⟨_, rfl⟩, fun a e => ?_⟩
    obtain rfl : a' = a := by simpa using e
    exact ⟨hl, hc i HI.out⟩
  obtain ⟨a2, rfl⟩ := hv'
  simp only [Act.put, List.setIfInBounds_toArray, List.set_cons_succ, List.set_cons_zero]
  refine wpStir_held rfl (fun w' hb' hd => ?_) (fun v' hv' => ?_)
  · obtain ⟨hl, hc⟩ := hd.1 (by kernel_rfl) a2 rfl
    clear hd
    go_simp
    exact ⟨rfl, trivial⟩
  obtain rfl := hv'
  simp only [Act.put, List.setIfInBounds_toArray, List.set_cons_succ, List.set_cons_zero]
  refine wpStir_held rfl (fun w' hb' hd => ?_) (fun v' hv' => ?_)
  · clear hd
    go_simp
    have he := ends_any (k.g i).ca k.pl (k.g i).cc k.base (k.g i).sp w' HOK.out.pl.2 HOK.out.base (HOK.out.cord i HI.out) ((HT1.out.mono hb').cords.sp HI.out)
    rw [HE.out] at he
    refine he.mono ?_
    rintro e w'' ⟨rfl, hb2⟩
    exact ⟨_, rfl, hb2, rfl, trivial⟩
  obtain rfl := hv'
  refine wpStir_end (fun w2 hb5 hd => ?_)
  clear hd
  simp only [List.drop_succ_cons, List.drop_zero]
  simp only [Act.put, List.setIfInBounds_toArray, List.set_cons_succ, List.set_cons_zero]
  have hb := hb5
  clear hb5
  have hB2 : Below w1.heap.size w1 w2 := bTrans (Below.refl _ _) hb
  have HD2 := Lib.hid (bTrans HD1.out hB2)
  have HT2 := Lib.hid (HT1.out.mono hB2)
  have K2 := Lib.hid (K1.out.mono hB2)
  have R2 := Lib.hid (R1.out.mono hB2)
  clear hb hB2 HD1 HT1 K1 K_0 K_1 K_2 K_3 K_l R1 R_0 R_1 R_l
  obtain ⟨K_0, K_1, K_2, K_3, K_l⟩ := K2.out.c4
  obtain ⟨R_0, R_1, R_l⟩ := R2.out.c2
  have rf0 := R2.out.frozen 0
  have rf1 := R2.out.frozen 1
  go_wp2_with fail
  refine bodyPost_ret (v := .tuple #[.agg #[.int .i64 lo, .int .i64 hi], .int .i64 0]) (by simp [results, Tryz.results60, go_sem, *]) rfl ⟨rfl, ?_⟩
  exact Below.setCell (p := ⟨(w.heap.size + 1), 1, none⟩) (Below.setCell (p := ⟨(w.heap.size + 1), 0, none⟩) HD2.out (by simp <;> omega) _) (by simp <;> omega) _
end Go.Proofs.YtifkjnmnflhnoaaGreatDoor

namespace Go.Proofs.YtifkjnmnflhnoaaGreatDoor
open Go.RowKit Go.Sort
def exWd (i : Nat) : Wd := ⟨2, fun _ => 2, fun k j => if k = 0 then (if j = 0 then 3 else if i = 1 then 2 else 1) else (if j = 0 then (if i = 0 then 0 else if i = 1 then 1 else 2) else 2)⟩
def exG : Qt := ⟨2, 3, exWd, 0, fun _ => ⟨0, 0, 0, 0, 0⟩⟩
def exF : Fact := ⟨0, 2, 1, 2, 3⟩
def exE : Qt := exG.add exF
theorem exWd_ok (i : Nat) : (exWd i).Ok 2 :=
  ⟨rfl, fun _ _ => rfl, fun k _ j _ => by
    unfold exWd
    simp only
    repeat' split
    all_goals omega⟩
theorem exE_ok : exE.Ok := ⟨by decide, by decide, by decide, by decide, fun i _ => exWd_ok i, fun i hi => by
  obtain rfl : i = 0 := by have : i < 1 := hi; omega
  exact ⟨by decide, by decide, by decide, by decide, by decide, by decide, by decide, by decide, by decide⟩⟩
theorem exE_left : exE.leftL = [0, 2] := by decide +kernel
theorem exE_know : exE.knowErr true = 0 := knowErr_ok exE_ok (by rw [exE_left]; decide)
theorem exG_fits : exG.Fits := ⟨by decide, by decide, fun i _ => ⟨by show 2 * 24 ≤ _; decide, fun k _ => by show 2 * 8 ≤ _; decide⟩⟩
theorem exE_fits : exE.Fits := ⟨by decide, by decide, fun i _ => ⟨by show 2 * 24 ≤ _; decide, fun k _ => by show 2 * 8 ≤ _; decide⟩⟩
theorem ex_well (n : Int) (h : 0 ≤ n) (h1 : n < 2) : exE.wellB n = true := by rw [wellB_ok exE_ok]; exact inR_t ⟨h, by show n ≤ 2 - 1; omega⟩
theorem ints2 {w : World} {b : Nat} {g : Nat → Int} (hl : b < w.heap.size) (h0 : w.cell? ⟨b, 0, none⟩ = some (.int .i64 (g 0))) (h1 : w.cell? ⟨b, 1, none⟩ = some (.int .i64 (g 1))) : IntsAt w (some ⟨b, 0, none⟩) 2 g :=
  .inr ⟨b, 0, rfl, hl, fun i hi => match i, hi with
    | 0, _ => h0
    | 1, _ => h1
    | n + 2, hi => absurd hi (by omega)⟩
theorem rows2 {w : World} {b b0 b1 : Nat} (i : Nat) (hl : b < w.heap.size) (h0 : w.cell? ⟨b, 0, none⟩ = some (.slice (some ⟨b0, 0, none⟩) 2 2)) (h1 : w.cell? ⟨b, 1, none⟩ = some (.slice (some ⟨b1, 0, none⟩) 2 2)) (i0 : IntsAt w (some ⟨b0, 0, none⟩) 2 ((exWd i).fall 0)) (i1 : IntsAt w (some ⟨b1, 0, none⟩) 2 ((exWd i).fall 1)) : RowsAt w (some ⟨b, 0, none⟩) (exWd i) :=
  .inr ⟨b, 0, rfl, hl, fun k hk => match k, hk with
    | 0, _ => ⟨_, 2, h0, i0, by show (2 : Nat) ≤ _; decide⟩
    | 1, _ => ⟨_, 2, h1, i1, by show (2 : Nat) ≤ _; decide⟩
    | n + 2, hk => absurd hk (by show ¬ n + 2 < 2; omega)⟩
theorem worlds3 {w : World} {b b0 b1 b2 : Nat} (hl : b < w.heap.size) (h0 : w.cell? ⟨b, 0, none⟩ = some (.slice (some ⟨b0, 0, none⟩) 2 2)) (h1 : w.cell? ⟨b, 1, none⟩ = some (.slice (some ⟨b1, 0, none⟩) 2 2)) (h2 : w.cell? ⟨b, 2, none⟩ = some (.slice (some ⟨b2, 0, none⟩) 2 2)) (r0 : RowsAt w (some ⟨b0, 0, none⟩) (exWd 0)) (r1 : RowsAt w (some ⟨b1, 0, none⟩) (exWd 1)) (r2 : RowsAt w (some ⟨b2, 0, none⟩) (exWd 2)) : QAt w (some ⟨b, 0, none⟩) none exG :=
  ⟨.inr ⟨b, 0, rfl, hl, fun i hi => match i, hi with
    | 0, _ => ⟨_, 2, h0, r0, by show (2 : Nat) ≤ _; decide⟩
    | 1, _ => ⟨_, 2, h1, r1, by show (2 : Nat) ≤ _; decide⟩
    | 2, _ => ⟨_, 2, h2, r2, by show (2 : Nat) ≤ _; decide⟩
    | n + 3, hi => absurd hi (by show ¬ n + 3 < 3; omega)⟩, .inl rfl⟩
set_option maxHeartbeats 4000000 in
theorem exG_at (w : World) : ∀ w' : World, (∀ b, w.heap.size + 2 ≤ b → b < ((((((((((((w.alloc (.cells #[.int .i64 0, .slice none 0 0, .slice none 0 0] 25)).alloc (.cells #[.int .i64 2, .slice (some ⟨w.heap.size + 1 + 1 + 1 + 1 + 1 + 1 + 1 + 1 + 1 + 1 + 1, 0, none⟩) 3 3, .slice none 0 0] 25)).alloc (.cells #[.int .i64 3, .int .i64 1] 3)).alloc (.cells #[.int .i64 0, .int .i64 2] 3)).alloc (.cells #[.slice (some ⟨w.heap.size + 1 + 1, 0, none⟩) 2 2, .slice (some ⟨w.heap.size + 1 + 1 + 1, 0, none⟩) 2 2] 34)).alloc (.cells #[.int .i64 3, .int .i64 2] 3)).alloc (.cells #[.int .i64 1, .int .i64 2] 3)).alloc (.cells #[.slice (some ⟨w.heap.size + 1 + 1 + 1 + 1 + 1, 0, none⟩) 2 2, .slice (some ⟨w.heap.size + 1 + 1 + 1 + 1 + 1 + 1, 0, none⟩) 2 2] 34)).alloc (.cells #[.int .i64 3, .int .i64 1] 3)).alloc (.cells #[.int .i64 2, .int .i64 2] 3)).alloc (.cells #[.slice (some ⟨w.heap.size + 1 + 1 + 1 + 1 + 1 + 1 + 1 + 1, 0, none⟩) 2 2, .slice (some ⟨w.heap.size + 1 + 1 + 1 + 1 + 1 + 1 + 1 + 1 + 1, 0, none⟩) 2 2] 34)).alloc (.cells #[.slice (some ⟨w.heap.size + 1 + 1 + 1 + 1, 0, none⟩) 2 2, .slice (some ⟨w.heap.size + 1 + 1 + 1 + 1 + 1 + 1 + 1, 0, none⟩) 2 2, .slice (some ⟨w.heap.size + 1 + 1 + 1 + 1 + 1 + 1 + 1 + 1 + 1 + 1, 0, none⟩) 2 2] 63)).heap.size → w'.heap[b]? = ((((((((((((w.alloc (.cells #[.int .i64 0, .slice none 0 0, .slice none 0 0] 25)).alloc (.cells #[.int .i64 2, .slice (some ⟨w.heap.size + 1 + 1 + 1 + 1 + 1 + 1 + 1 + 1 + 1 + 1 + 1, 0, none⟩) 3 3, .slice none 0 0] 25)).alloc (.cells #[.int .i64 3, .int .i64 1] 3)).alloc (.cells #[.int .i64 0, .int .i64 2] 3)).alloc (.cells #[.slice (some ⟨w.heap.size + 1 + 1, 0, none⟩) 2 2, .slice (some ⟨w.heap.size + 1 + 1 + 1, 0, none⟩) 2 2] 34)).alloc (.cells #[.int .i64 3, .int .i64 2] 3)).alloc (.cells #[.int .i64 1, .int .i64 2] 3)).alloc (.cells #[.slice (some ⟨w.heap.size + 1 + 1 + 1 + 1 + 1, 0, none⟩) 2 2, .slice (some ⟨w.heap.size + 1 + 1 + 1 + 1 + 1 + 1, 0, none⟩) 2 2] 34)).alloc (.cells #[.int .i64 3, .int .i64 1] 3)).alloc (.cells #[.int .i64 2, .int .i64 2] 3)).alloc (.cells #[.slice (some ⟨w.heap.size + 1 + 1 + 1 + 1 + 1 + 1 + 1 + 1, 0, none⟩) 2 2, .slice (some ⟨w.heap.size + 1 + 1 + 1 + 1 + 1 + 1 + 1 + 1 + 1, 0, none⟩) 2 2] 34)).alloc (.cells #[.slice (some ⟨w.heap.size + 1 + 1 + 1 + 1, 0, none⟩) 2 2, .slice (some ⟨w.heap.size + 1 + 1 + 1 + 1 + 1 + 1 + 1, 0, none⟩) 2 2, .slice (some ⟨w.heap.size + 1 + 1 + 1 + 1 + 1 + 1 + 1 + 1 + 1 + 1, 0, none⟩) 2 2] 63)).heap[b]?) → ((((((((((((w.alloc (.cells #[.int .i64 0, .slice none 0 0, .slice none 0 0] 25)).alloc (.cells #[.int .i64 2, .slice (some ⟨w.heap.size + 1 + 1 + 1 + 1 + 1 + 1 + 1 + 1 + 1 + 1 + 1, 0, none⟩) 3 3, .slice none 0 0] 25)).alloc (.cells #[.int .i64 3, .int .i64 1] 3)).alloc (.cells #[.int .i64 0, .int .i64 2] 3)).alloc (.cells #[.slice (some ⟨w.heap.size + 1 + 1, 0, none⟩) 2 2, .slice (some ⟨w.heap.size + 1 + 1 + 1, 0, none⟩) 2 2] 34)).alloc (.cells #[.int .i64 3, .int .i64 2] 3)).alloc (.cells #[.int .i64 1, .int .i64 2] 3)).alloc (.cells #[.slice (some ⟨w.heap.size + 1 + 1 + 1 + 1 + 1, 0, none⟩) 2 2, .slice (some ⟨w.heap.size + 1 + 1 + 1 + 1 + 1 + 1, 0, none⟩) 2 2] 34)).alloc (.cells #[.int .i64 3, .int .i64 1] 3)).alloc (.cells #[.int .i64 2, .int .i64 2] 3)).alloc (.cells #[.slice (some ⟨w.heap.size + 1 + 1 + 1 + 1 + 1 + 1 + 1 + 1, 0, none⟩) 2 2, .slice (some ⟨w.heap.size + 1 + 1 + 1 + 1 + 1 + 1 + 1 + 1 + 1, 0, none⟩) 2 2] 34)).alloc (.cells #[.slice (some ⟨w.heap.size + 1 + 1 + 1 + 1, 0, none⟩) 2 2, .slice (some ⟨w.heap.size + 1 + 1 + 1 + 1 + 1 + 1 + 1, 0, none⟩) 2 2, .slice (some ⟨w.heap.size + 1 + 1 + 1 + 1 + 1 + 1 + 1 + 1 + 1 + 1, 0, none⟩) 2 2] 63)).heap.size ≤ w'.heap.size → QAt w' (some ⟨w.heap.size + 1 + 1 + 1 + 1 + 1 + 1 + 1 + 1 + 1 + 1 + 1, 0, none⟩) none exG := by
  intro w' hk hs
  simp only [World.size_alloc] at hs
  have c2_0 : w'.cell? ⟨w.heap.size + 1 + 1, 0, none⟩ = some (.int .i64 3) := (cell_of_heap (hk (w.heap.size + 1 + 1) (by omega) (by simp <;> omega)) 0).trans (by simp [go_sem])
  have c2_1 : w'.cell? ⟨w.heap.size + 1 + 1, 1, none⟩ = some (.int .i64 1) := (cell_of_heap (hk (w.heap.size + 1 + 1) (by omega) (by simp <;> omega)) 1).trans (by simp [go_sem])
  have c3_0 : w'.cell? ⟨w.heap.size + 1 + 1 + 1, 0, none⟩ = some (.int .i64 0) := (cell_of_heap (hk (w.heap.size + 1 + 1 + 1) (by omega) (by simp <;> omega)) 0).trans (by simp [go_sem])
  have c3_1 : w'.cell? ⟨w.heap.size + 1 + 1 + 1, 1, none⟩ = some (.int .i64 2) := (cell_of_heap (hk (w.heap.size + 1 + 1 + 1) (by omega) (by simp <;> omega)) 1).trans (by simp [go_sem])
  have c4_0 : w'.cell? ⟨w.heap.size + 1 + 1 + 1 + 1, 0, none⟩ = some (.slice (some ⟨w.heap.size + 1 + 1, 0, none⟩) 2 2) := (cell_of_heap (hk (w.heap.size + 1 + 1 + 1 + 1) (by omega) (by simp <;> omega)) 0).trans (by simp [go_sem])
  have c4_1 : w'.cell? ⟨w.heap.size + 1 + 1 + 1 + 1, 1, none⟩ = some (.slice (some ⟨w.heap.size + 1 + 1 + 1, 0, none⟩) 2 2) := (cell_of_heap (hk (w.heap.size + 1 + 1 + 1 + 1) (by omega) (by simp <;> omega)) 1).trans (by simp [go_sem])
  have c5_0 : w'.cell? ⟨w.heap.size + 1 + 1 + 1 + 1 + 1, 0, none⟩ = some (.int .i64 3) := (cell_of_heap (hk (w.heap.size + 1 + 1 + 1 + 1 + 1) (by omega) (by simp <;> omega)) 0).trans (by simp [go_sem])
  have c5_1 : w'.cell? ⟨w.heap.size + 1 + 1 + 1 + 1 + 1, 1, none⟩ = some (.int .i64 2) := (cell_of_heap (hk (w.heap.size + 1 + 1 + 1 + 1 + 1) (by omega) (by simp <;> omega)) 1).trans (by simp [go_sem])
  have c6_0 : w'.cell? ⟨w.heap.size + 1 + 1 + 1 + 1 + 1 + 1, 0, none⟩ = some (.int .i64 1) := (cell_of_heap (hk (w.heap.size + 1 + 1 + 1 + 1 + 1 + 1) (by omega) (by simp <;> omega)) 0).trans (by simp [go_sem])
  have c6_1 : w'.cell? ⟨w.heap.size + 1 + 1 + 1 + 1 + 1 + 1, 1, none⟩ = some (.int .i64 2) := (cell_of_heap (hk (w.heap.size + 1 + 1 + 1 + 1 + 1 + 1) (by omega) (by simp <;> omega)) 1).trans (by simp [go_sem])
  have c7_0 : w'.cell? ⟨w.heap.size + 1 + 1 + 1 + 1 + 1 + 1 + 1, 0, none⟩ = some (.slice (some ⟨w.heap.size + 1 + 1 + 1 + 1 + 1, 0, none⟩) 2 2) := (cell_of_heap (hk (w.heap.size + 1 + 1 + 1 + 1 + 1 + 1 + 1) (by omega) (by simp <;> omega)) 0).trans (by simp [go_sem])
  have c7_1 : w'.cell? ⟨w.heap.size + 1 + 1 + 1 + 1 + 1 + 1 + 1, 1, none⟩ = some (.slice (some ⟨w.heap.size + 1 + 1 + 1 + 1 + 1 + 1, 0, none⟩) 2 2) := (cell_of_heap (hk (w.heap.size + 1 + 1 + 1 + 1 + 1 + 1 + 1) (by omega) (by simp <;> omega)) 1).trans (by simp [go_sem])
  have c8_0 : w'.cell? ⟨w.heap.size + 1 + 1 + 1 + 1 + 1 + 1 + 1 + 1, 0, none⟩ = some (.int .i64 3) := (cell_of_heap (hk (w.heap.size + 1 + 1 + 1 + 1 + 1 + 1 + 1 + 1) (by omega) (by simp <;> omega)) 0).trans (by simp [go_sem])
  have c8_1 : w'.cell? ⟨w.heap.size + 1 + 1 + 1 + 1 + 1 + 1 + 1 + 1, 1, none⟩ = some (.int .i64 1) := (cell_of_heap (hk (w.heap.size + 1 + 1 + 1 + 1 + 1 + 1 + 1 + 1) (by omega) (by simp <;> omega)) 1).trans (by simp [go_sem])
  have c9_0 : w'.cell? ⟨w.heap.size + 1 + 1 + 1 + 1 + 1 + 1 + 1 + 1 + 1, 0, none⟩ = some (.int .i64 2) := (cell_of_heap (hk (w.heap.size + 1 + 1 + 1 + 1 + 1 + 1 + 1 + 1 + 1) (by omega) (by simp <;> omega)) 0).trans (by simp [go_sem])
  have c9_1 : w'.cell? ⟨w.heap.size + 1 + 1 + 1 + 1 + 1 + 1 + 1 + 1 + 1, 1, none⟩ = some (.int .i64 2) := (cell_of_heap (hk (w.heap.size + 1 + 1 + 1 + 1 + 1 + 1 + 1 + 1 + 1) (by omega) (by simp <;> omega)) 1).trans (by simp [go_sem])
  have c10_0 : w'.cell? ⟨w.heap.size + 1 + 1 + 1 + 1 + 1 + 1 + 1 + 1 + 1 + 1, 0, none⟩ = some (.slice (some ⟨w.heap.size + 1 + 1 + 1 + 1 + 1 + 1 + 1 + 1, 0, none⟩) 2 2) := (cell_of_heap (hk (w.heap.size + 1 + 1 + 1 + 1 + 1 + 1 + 1 + 1 + 1 + 1) (by omega) (by simp <;> omega)) 0).trans (by simp [go_sem])
  have c10_1 : w'.cell? ⟨w.heap.size + 1 + 1 + 1 + 1 + 1 + 1 + 1 + 1 + 1 + 1, 1, none⟩ = some (.slice (some ⟨w.heap.size + 1 + 1 + 1 + 1 + 1 + 1 + 1 + 1 + 1, 0, none⟩) 2 2) := (cell_of_heap (hk (w.heap.size + 1 + 1 + 1 + 1 + 1 + 1 + 1 + 1 + 1 + 1) (by omega) (by simp <;> omega)) 1).trans (by simp [go_sem])
  have c11_0 : w'.cell? ⟨w.heap.size + 1 + 1 + 1 + 1 + 1 + 1 + 1 + 1 + 1 + 1 + 1, 0, none⟩ = some (.slice (some ⟨w.heap.size + 1 + 1 + 1 + 1, 0, none⟩) 2 2) := (cell_of_heap (hk (w.heap.size + 1 + 1 + 1 + 1 + 1 + 1 + 1 + 1 + 1 + 1 + 1) (by omega) (by simp <;> omega)) 0).trans (by simp [go_sem])
  have c11_1 : w'.cell? ⟨w.heap.size + 1 + 1 + 1 + 1 + 1 + 1 + 1 + 1 + 1 + 1 + 1, 1, none⟩ = some (.slice (some ⟨w.heap.size + 1 + 1 + 1 + 1 + 1 + 1 + 1, 0, none⟩) 2 2) := (cell_of_heap (hk (w.heap.size + 1 + 1 + 1 + 1 + 1 + 1 + 1 + 1 + 1 + 1 + 1) (by omega) (by simp <;> omega)) 1).trans (by simp [go_sem])
  have c11_2 : w'.cell? ⟨w.heap.size + 1 + 1 + 1 + 1 + 1 + 1 + 1 + 1 + 1 + 1 + 1, 2, none⟩ = some (.slice (some ⟨w.heap.size + 1 + 1 + 1 + 1 + 1 + 1 + 1 + 1 + 1 + 1, 0, none⟩) 2 2) := (cell_of_heap (hk (w.heap.size + 1 + 1 + 1 + 1 + 1 + 1 + 1 + 1 + 1 + 1 + 1) (by omega) (by simp <;> omega)) 2).trans (by simp [go_sem])
  have l2 : w.heap.size + 1 + 1 < w'.heap.size := by omega
  have l3 : w.heap.size + 1 + 1 + 1 < w'.heap.size := by omega
  have l4 : w.heap.size + 1 + 1 + 1 + 1 < w'.heap.size := by omega
  have l5 : w.heap.size + 1 + 1 + 1 + 1 + 1 < w'.heap.size := by omega
  have l6 : w.heap.size + 1 + 1 + 1 + 1 + 1 + 1 < w'.heap.size := by omega
  have l7 : w.heap.size + 1 + 1 + 1 + 1 + 1 + 1 + 1 < w'.heap.size := by omega
  have l8 : w.heap.size + 1 + 1 + 1 + 1 + 1 + 1 + 1 + 1 < w'.heap.size := by omega
  have l9 : w.heap.size + 1 + 1 + 1 + 1 + 1 + 1 + 1 + 1 + 1 < w'.heap.size := by omega
  have l10 : w.heap.size + 1 + 1 + 1 + 1 + 1 + 1 + 1 + 1 + 1 + 1 < w'.heap.size := by omega
  have l11 : w.heap.size + 1 + 1 + 1 + 1 + 1 + 1 + 1 + 1 + 1 + 1 + 1 < w'.heap.size := by omega
  exact worlds3 l11 c11_0 c11_1 c11_2 (rows2 0 l4 c4_0 c4_1 (ints2 l2 c2_0 c2_1) (ints2 l3 c3_0 c3_1)) (rows2 1 l7 c7_0 c7_1 (ints2 l5 c5_0 c5_1) (ints2 l6 c6_0 c6_1)) (rows2 2 l10 c10_0 c10_1 (ints2 l8 c8_0 c8_1) (ints2 l9 c9_0 c9_1))
/-- a town of the call's own, as a value -/
def twcS (m : Int) (n k : Nat) (v : Value) : Prop := ∃ (Aw : Option Addr) (cw : Nat) (Af : Option Addr) (cf : Nat), v = .agg #[.int .i64 m, .slice Aw n cw, .slice Af k cf]
def twcR (N : Nat) (t : Qt) (w : World) (v : Value) : Prop := ∀ vW vF, v = .agg #[.int .i64 t.wells, vW, vF] → CopyAt w N vW vF t
theorem twcG {N : Nat} {t : Qt} {m : Int} {n k : Nat} : (Stir.held (twcS m n k) (twcR N t)).good := ⟨⟨_, none, 0, none, 0, rfl⟩, fun _ _ _ hb h vW vF e => (h vW vF e).mono hb⟩
theorem CopyAt.kept {l : List TypeId} {w w' : World} {base : Nat} {vW vF : Value} {t : Qt} (h : CopyAt w base vW vF t) (hk : Kept l w w') (h1 : 3 ∈ l) (h2 : 34 ∈ l) (h3 : 63 ∈ l) (h4 : 27 ∈ l) : CopyAt w' base vW vF t := by
  obtain ⟨⟨us, a, b⟩, c⟩ := h
  exact ⟨⟨us, owns_kept a hk h3, b.kept hk h1 h2⟩, owns_kept c hk h4⟩
theorem CopyOut.twc {w : World} {base N : Nat} {t : Qt} {e : Ending} (h : CopyOut w base t e) (hN : N ≤ base) : ∃ v, e = .returned v ∧ twcS t.wells t.nw t.nf v ∧ twcR N t w v := by
  obtain ⟨vW, vF, rfl, hc⟩ := h
  obtain ⟨Aw, cw, Af, cf, e1, e2, _⟩ := hc.qat
  refine ⟨_, rfl, ⟨Aw, cw, Af, cf, by rw [e1, e2]⟩, fun vW' vF' e => ?_⟩
  simp only [Value.agg.injEq, Array.mk.injEq, List.cons.injEq, and_true, true_and] at e
  obtain ⟨rfl, rfl⟩ := e
  exact hc.lower hN
def ExOut (w : World) (e : Ending) : Prop := ∃ (Aw : Option Addr) (cw : Nat) (Af : Option Addr) (cf : Nat) (Bw : Option Addr) (dw : Nat), e = .returned (.tuple #[.agg #[.int .i64 2, .slice Aw 3 cw, .slice Af 1 cf], .agg #[.int .i64 2, .slice Bw 3 dw, .slice none 0 0]]) ∧ QAt w Aw Af exE ∧ QAt w Bw none exG
set_option maxHeartbeats 4000000 in
set_option maxRecDepth 100000 in
theorem example5_any (w : World) : Calls Tryz.prog 23 #[] w fun e w' => ExOut w' e ∧ Below w.heap.size w w' := by
  go_enter Tryz.func23, Tryz.ntmps23
  go_wp2_with fail
  have hQ := exG_at w
  have hB : Below w.heap.size w ((((((((((((w.alloc (.cells #[.int .i64 0, .slice none 0 0, .slice none 0 0] 25)).alloc (.cells #[.int .i64 2, .slice (some ⟨w.heap.size + 1 + 1 + 1 + 1 + 1 + 1 + 1 + 1 + 1 + 1 + 1, 0, none⟩) 3 3, .slice none 0 0] 25)).alloc (.cells #[.int .i64 3, .int .i64 1] 3)).alloc (.cells #[.int .i64 0, .int .i64 2] 3)).alloc (.cells #[.slice (some ⟨w.heap.size + 1 + 1, 0, none⟩) 2 2, .slice (some ⟨w.heap.size + 1 + 1 + 1, 0, none⟩) 2 2] 34)).alloc (.cells #[.int .i64 3, .int .i64 2] 3)).alloc (.cells #[.int .i64 1, .int .i64 2] 3)).alloc (.cells #[.slice (some ⟨w.heap.size + 1 + 1 + 1 + 1 + 1, 0, none⟩) 2 2, .slice (some ⟨w.heap.size + 1 + 1 + 1 + 1 + 1 + 1, 0, none⟩) 2 2] 34)).alloc (.cells #[.int .i64 3, .int .i64 1] 3)).alloc (.cells #[.int .i64 2, .int .i64 2] 3)).alloc (.cells #[.slice (some ⟨w.heap.size + 1 + 1 + 1 + 1 + 1 + 1 + 1 + 1, 0, none⟩) 2 2, .slice (some ⟨w.heap.size + 1 + 1 + 1 + 1 + 1 + 1 + 1 + 1 + 1, 0, none⟩) 2 2] 34)).alloc (.cells #[.slice (some ⟨w.heap.size + 1 + 1 + 1 + 1, 0, none⟩) 2 2, .slice (some ⟨w.heap.size + 1 + 1 + 1 + 1 + 1 + 1 + 1, 0, none⟩) 2 2, .slice (some ⟨w.heap.size + 1 + 1 + 1 + 1 + 1 + 1 + 1 + 1 + 1 + 1, 0, none⟩) 2 2] 63)) := by (repeat (first | (with_reducible exact Below.refl _ _) | (with_reducible refine bAlloc ?_ _) | (with_reducible refine bDrew ?_) | (with_reducible refine bGrow ?_ _ _) | (with_reducible refine bSet ?_ ?_ _; (first | exact Nat.le_refl _ | exact Nat.le_add_right _ _ | (simp; omega))) | (with_reducible refine bTrans ?_ (by assumption))))
  have hT0 : TBox ((((((((((((w.alloc (.cells #[.int .i64 0, .slice none 0 0, .slice none 0 0] 25)).alloc (.cells #[.int .i64 2, .slice (some ⟨w.heap.size + 1 + 1 + 1 + 1 + 1 + 1 + 1 + 1 + 1 + 1 + 1, 0, none⟩) 3 3, .slice none 0 0] 25)).alloc (.cells #[.int .i64 3, .int .i64 1] 3)).alloc (.cells #[.int .i64 0, .int .i64 2] 3)).alloc (.cells #[.slice (some ⟨w.heap.size + 1 + 1, 0, none⟩) 2 2, .slice (some ⟨w.heap.size + 1 + 1 + 1, 0, none⟩) 2 2] 34)).alloc (.cells #[.int .i64 3, .int .i64 2] 3)).alloc (.cells #[.int .i64 1, .int .i64 2] 3)).alloc (.cells #[.slice (some ⟨w.heap.size + 1 + 1 + 1 + 1 + 1, 0, none⟩) 2 2, .slice (some ⟨w.heap.size + 1 + 1 + 1 + 1 + 1 + 1, 0, none⟩) 2 2] 34)).alloc (.cells #[.int .i64 3, .int .i64 1] 3)).alloc (.cells #[.int .i64 2, .int .i64 2] 3)).alloc (.cells #[.slice (some ⟨w.heap.size + 1 + 1 + 1 + 1 + 1 + 1 + 1 + 1, 0, none⟩) 2 2, .slice (some ⟨w.heap.size + 1 + 1 + 1 + 1 + 1 + 1 + 1 + 1 + 1, 0, none⟩) 2 2] 34)).alloc (.cells #[.slice (some ⟨w.heap.size + 1 + 1 + 1 + 1, 0, none⟩) 2 2, .slice (some ⟨w.heap.size + 1 + 1 + 1 + 1 + 1 + 1 + 1, 0, none⟩) 2 2, .slice (some ⟨w.heap.size + 1 + 1 + 1 + 1 + 1 + 1 + 1 + 1 + 1 + 1, 0, none⟩) 2 2] 63)) w.heap.size 25 #[.int .i64 0, .slice none 0 0, .slice none 0 0] := TBox.mono (TBox.new w #[.int .i64 0, .slice none 0 0, .slice none 0 0] 25) (by (repeat (first | (with_reducible exact Below.refl _ _) | (with_reducible refine bAlloc ?_ _) | (with_reducible refine bDrew ?_) | (with_reducible refine bGrow ?_ _ _) | (with_reducible refine bSet ?_ ?_ _; (first | exact Nat.le_refl _ | exact Nat.le_add_right _ _ | (simp; omega))) | (with_reducible refine bTrans ?_ (by assumption)))))
  have hT1 : TBox ((((((((((((w.alloc (.cells #[.int .i64 0, .slice none 0 0, .slice none 0 0] 25)).alloc (.cells #[.int .i64 2, .slice (some ⟨w.heap.size + 1 + 1 + 1 + 1 + 1 + 1 + 1 + 1 + 1 + 1 + 1, 0, none⟩) 3 3, .slice none 0 0] 25)).alloc (.cells #[.int .i64 3, .int .i64 1] 3)).alloc (.cells #[.int .i64 0, .int .i64 2] 3)).alloc (.cells #[.slice (some ⟨w.heap.size + 1 + 1, 0, none⟩) 2 2, .slice (some ⟨w.heap.size + 1 + 1 + 1, 0, none⟩) 2 2] 34)).alloc (.cells #[.int .i64 3, .int .i64 2] 3)).alloc (.cells #[.int .i64 1, .int .i64 2] 3)).alloc (.cells #[.slice (some ⟨w.heap.size + 1 + 1 + 1 + 1 + 1, 0, none⟩) 2 2, .slice (some ⟨w.heap.size + 1 + 1 + 1 + 1 + 1 + 1, 0, none⟩) 2 2] 34)).alloc (.cells #[.int .i64 3, .int .i64 1] 3)).alloc (.cells #[.int .i64 2, .int .i64 2] 3)).alloc (.cells #[.slice (some ⟨w.heap.size + 1 + 1 + 1 + 1 + 1 + 1 + 1 + 1, 0, none⟩) 2 2, .slice (some ⟨w.heap.size + 1 + 1 + 1 + 1 + 1 + 1 + 1 + 1 + 1, 0, none⟩) 2 2] 34)).alloc (.cells #[.slice (some ⟨w.heap.size + 1 + 1 + 1 + 1, 0, none⟩) 2 2, .slice (some ⟨w.heap.size + 1 + 1 + 1 + 1 + 1 + 1 + 1, 0, none⟩) 2 2, .slice (some ⟨w.heap.size + 1 + 1 + 1 + 1 + 1 + 1 + 1 + 1 + 1 + 1, 0, none⟩) 2 2] 63)) (w.heap.size + 1) 25 #[.int .i64 2, .slice (some ⟨w.heap.size + 1 + 1 + 1 + 1 + 1 + 1 + 1 + 1 + 1 + 1 + 1, 0, none⟩) 3 3, .slice none 0 0] := by
    have := TBox.mono (TBox.new (w.alloc (.cells #[.int .i64 0, .slice none 0 0, .slice none 0 0] 25)) #[.int .i64 2, .slice (some ⟨w.heap.size + 1 + 1 + 1 + 1 + 1 + 1 + 1 + 1 + 1 + 1 + 1, 0, none⟩) 3 3, .slice none 0 0] 25) (w' := ((((((((((((w.alloc (.cells #[.int .i64 0, .slice none 0 0, .slice none 0 0] 25)).alloc (.cells #[.int .i64 2, .slice (some ⟨w.heap.size + 1 + 1 + 1 + 1 + 1 + 1 + 1 + 1 + 1 + 1 + 1, 0, none⟩) 3 3, .slice none 0 0] 25)).alloc (.cells #[.int .i64 3, .int .i64 1] 3)).alloc (.cells #[.int .i64 0, .int .i64 2] 3)).alloc (.cells #[.slice (some ⟨w.heap.size + 1 + 1, 0, none⟩) 2 2, .slice (some ⟨w.heap.size + 1 + 1 + 1, 0, none⟩) 2 2] 34)).alloc (.cells #[.int .i64 3, .int .i64 2] 3)).alloc (.cells #[.int .i64 1, .int .i64 2] 3)).alloc (.cells #[.slice (some ⟨w.heap.size + 1 + 1 + 1 + 1 + 1, 0, none⟩) 2 2, .slice (some ⟨w.heap.size + 1 + 1 + 1 + 1 + 1 + 1, 0, none⟩) 2 2] 34)).alloc (.cells #[.int .i64 3, .int .i64 1] 3)).alloc (.cells #[.int .i64 2, .int .i64 2] 3)).alloc (.cells #[.slice (some ⟨w.heap.size + 1 + 1 + 1 + 1 + 1 + 1 + 1 + 1, 0, none⟩) 2 2, .slice (some ⟨w.heap.size + 1 + 1 + 1 + 1 + 1 + 1 + 1 + 1 + 1, 0, none⟩) 2 2] 34)).alloc (.cells #[.slice (some ⟨w.heap.size + 1 + 1 + 1 + 1, 0, none⟩) 2 2, .slice (some ⟨w.heap.size + 1 + 1 + 1 + 1 + 1 + 1 + 1, 0, none⟩) 2 2, .slice (some ⟨w.heap.size + 1 + 1 + 1 + 1 + 1 + 1 + 1 + 1 + 1 + 1, 0, none⟩) 2 2] 63))) (by (repeat (first | (with_reducible exact Below.refl _ _) | (with_reducible refine bAlloc ?_ _) | (with_reducible refine bDrew ?_) | (with_reducible refine bGrow ?_ _ _) | (with_reducible refine bSet ?_ ?_ _; (first | exact Nat.le_refl _ | exact Nat.le_add_right _ _ | (simp; omega))) | (with_reducible refine bTrans ?_ (by assumption)))))
    simpa [TBox] using this
  generalize ((((((((((((w.alloc (.cells #[.int .i64 0, .slice none 0 0, .slice none 0 0] 25)).alloc (.cells #[.int .i64 2, .slice (some ⟨w.heap.size + 1 + 1 + 1 + 1 + 1 + 1 + 1 + 1 + 1 + 1 + 1, 0, none⟩) 3 3, .slice none 0 0] 25)).alloc (.cells #[.int .i64 3, .int .i64 1] 3)).alloc (.cells #[.int .i64 0, .int .i64 2] 3)).alloc (.cells #[.slice (some ⟨w.heap.size + 1 + 1, 0, none⟩) 2 2, .slice (some ⟨w.heap.size + 1 + 1 + 1, 0, none⟩) 2 2] 34)).alloc (.cells #[.int .i64 3, .int .i64 2] 3)).alloc (.cells #[.int .i64 1, .int .i64 2] 3)).alloc (.cells #[.slice (some ⟨w.heap.size + 1 + 1 + 1 + 1 + 1, 0, none⟩) 2 2, .slice (some ⟨w.heap.size + 1 + 1 + 1 + 1 + 1 + 1, 0, none⟩) 2 2] 34)).alloc (.cells #[.int .i64 3, .int .i64 1] 3)).alloc (.cells #[.int .i64 2, .int .i64 2] 3)).alloc (.cells #[.slice (some ⟨w.heap.size + 1 + 1 + 1 + 1 + 1 + 1 + 1 + 1, 0, none⟩) 2 2, .slice (some ⟨w.heap.size + 1 + 1 + 1 + 1 + 1 + 1 + 1 + 1 + 1, 0, none⟩) 2 2] 34)).alloc (.cells #[.slice (some ⟨w.heap.size + 1 + 1 + 1 + 1, 0, none⟩) 2 2, .slice (some ⟨w.heap.size + 1 + 1 + 1 + 1 + 1 + 1 + 1, 0, none⟩) 2 2, .slice (some ⟨w.heap.size + 1 + 1 + 1 + 1 + 1 + 1 + 1 + 1 + 1 + 1, 0, none⟩) 2 2] 63)) = W at *
  generalize w.heap.size + 1 + 1 + 1 + 1 + 1 + 1 + 1 + 1 + 1 + 1 + 1 = B at *
  have HQA := Lib.hid hQ
  have HQ := Lib.hid (hQ W (fun _ _ _ => rfl) (Nat.le_refl _))
  have HB := Lib.hid hB
  have HT0 := Lib.hid hT0
  have HT1 := Lib.hid hT1
  have c10 : W.cell? ⟨w.heap.size + 1, 0, none⟩ = some (.int .i64 2) := hT1.cell 0
  have c11 : W.cell? ⟨w.heap.size + 1, 1, none⟩ = some (.slice (some ⟨B, 0, none⟩) 3 3) := hT1.cell 1
  have c12 : W.cell? ⟨w.heap.size + 1, 2, none⟩ = some (.slice none 0 0) := hT1.cell 2
  have hl1 := hT1.lt
  have HTL := Lib.hid (fun (w' : World) (hb : Below W.heap.size W w') => (told5_any (some ⟨B, 0, none⟩) none 3 0 exG exF w' exG_fits (HQ.out.mono hb) : Calls Tryz.prog 4 #[.agg #[.int .i64 2, .slice (some ⟨B, 0, none⟩) 3 3, .slice none 0 0], .agg #[.int .i64 0, .int .i64 2, .int .i64 1, .int .i64 2, .int .i64 3]] w' fun e w'' => CopyOut w'' w'.heap.size exE e ∧ Below w'.heap.size w' w''))
  clear hQ hB hT0 hT1
  refine wp_region_tardy 4 3 [.const (.agg #[.int .i64 2, .slice (some ⟨B, 0, none⟩) 3 3, .slice none 0 0]), .const (.agg #[.int .i64 0, .int .i64 2, .int .i64 1, .int .i64 2, .int .i64 3]), .held (twcS 2 3 1) (twcR W.heap.size exE), .const (.agg #[.int .i64 2, .slice (some ⟨B, 0, none⟩) 3 3, .slice none 0 0])]
    (.agg #[.int .i64 2, .slice (some ⟨B, 0, none⟩) 3 3, .slice none 0 0]) (by kernel_rfl) (by kernel_rfl) rfl ⟨trivial, trivial, twcG, trivial, trivial⟩ (crossAll_no _ _ _ _ trivial) rfl rfl rfl rfl rfl rfl ?_
  iterate 2 refine wpStir_const (by go_simp) ?_
  simp only [Act.put, List.setIfInBounds_toArray, List.set_cons_succ, List.set_cons_zero]
  refine wpStir_held rfl (fun w' hb hd => ?_) (fun v hv => ?_)
  · clear hd
    go_simp
    refine (HTL.out w' hb).mono ?_
    rintro e w'' ⟨ho, hb'⟩
    obtain ⟨v, rfl, h1, h2⟩ := ho.twc hb.size
    exact ⟨v, rfl, hb', h1, h2⟩
  obtain ⟨Aw, cw, Af, cf, rfl⟩ := hv
  refine wpStir_const (by go_simp) ?_
  simp only [Act.put, List.setIfInBounds_toArray, List.set_cons_succ, List.set_cons_zero]
  refine wpStir_end (fun w5 hb5 hd => ?_)
  have hcp : CopyAt w5 W.heap.size _ _ exE := hd.1 _ _ rfl
  clear hd c10 c11 c12
  have HC := Lib.hid hcp
  have h0 := HT0.out.mono hb5
  have h1 := HT1.out.mono hb5
  have H0 := Lib.hid h0
  have H1 := Lib.hid h1
  have HB5 := Lib.hid (bTrans HB.out hb5)
  have HBW := Lib.hid hb5
  have HZ5 := Lib.hid hb5.size
  have a0 : w5.cell? ⟨w.heap.size, 0, none⟩ = some (.int .i64 0) := h0.cell 0
  have a1 : w5.cell? ⟨w.heap.size, 1, none⟩ = some (.slice none 0 0) := h0.cell 1
  have a2 : w5.cell? ⟨w.heap.size, 2, none⟩ = some (.slice none 0 0) := h0.cell 2
  have b0 : w5.cell? ⟨w.heap.size + 1, 0, none⟩ = some (.int .i64 2) := h1.cell 0
  have b1 : w5.cell? ⟨w.heap.size + 1, 1, none⟩ = some (.slice (some ⟨B, 0, none⟩) 3 3) := h1.cell 1
  have b2 : w5.cell? ⟨w.heap.size + 1, 2, none⟩ = some (.slice none 0 0) := h1.cell 2
  have f0 := h0.frozen 0
  have f1 := h0.frozen 1
  have f2 := h0.frozen 2
  have g0 := h1.frozen 0
  have g1 := h1.frozen 1
  have g2 := h1.frozen 2
  have l1 : w.heap.size + 1 < w5.heap.size := h1.lt
  have l0 : w.heap.size < w5.heap.size := h0.lt
  clear h0 h1 hcp hb5
  obtain ⟨w6, hw6⟩ : ∃ w6, ((w5.setCell ⟨w.heap.size, 0, none⟩ (.int .i64 2)).setCell ⟨w.heap.size, 1, none⟩ (.slice Aw 3 cw)).setCell ⟨w.heap.size, 2, none⟩ (.slice Af 1 cf) = w6 := ⟨_, rfl⟩
  have h0 : TBox w6 w.heap.size 25 #[.int .i64 2, .slice Aw 3 cw, .slice Af 1 cf] := hw6 ▸ ((H0.out.set 0 (.int .i64 2)).set 1 (.slice Aw 3 cw)).set 2 (.slice Af 1 cf)
  have h1 : TBox w6 (w.heap.size + 1) 25 #[.int .i64 2, .slice (some ⟨B, 0, none⟩) 3 3, .slice none 0 0] := hw6 ▸ ((H1.out.other (by omega) 0 (.int .i64 2)).other (by omega) 1 (.slice Aw 3 cw)).other (by omega) 2 (.slice Af 1 cf)
  have k0 : Kept [3, 34, 63, 27] w5 w6 := hw6 ▸ ((Kept.set H0.out (by decide) 0 (.int .i64 2)).trans (Kept.set (H0.out.set 0 (.int .i64 2)) (by decide) 1 (.slice Aw 3 cw))).trans (Kept.set ((H0.out.set 0 (.int .i64 2)).set 1 (.slice Aw 3 cw)) (by decide) 2 (.slice Af 1 cf))
  have hb6 : Below w.heap.size w w6 := hw6 ▸ Below.setCell (p := ⟨w.heap.size, 2, none⟩) (Below.setCell (p := ⟨w.heap.size, 1, none⟩) (Below.setCell (p := ⟨w.heap.size, 0, none⟩) HB5.out (by simp) (.int .i64 2)) (by simp) (.slice Aw 3 cw)) (by simp) (.slice Af 1 cf)
  have HH6 := Lib.hid (show ∀ b, b ≠ w.heap.size → w6.heap[b]? = w5.heap[b]? from fun b hb => by
    rw [← hw6, Below.heap_setCell _ _ _ b hb, Below.heap_setCell _ _ _ b hb, Below.heap_setCell _ _ _ b hb])
  have HW6 := Lib.hid hw6
  have H60 := Lib.hid h0
  have H61 := Lib.hid h1
  have HK6 := Lib.hid k0
  have HB6 := Lib.hid hb6
  clear hw6 k0 hb6 h0 h1
  have d0 : w6.cell? ⟨w.heap.size + 1, 0, none⟩ = some (.int .i64 2) := H61.out.cell 0
  have d1 : w6.cell? ⟨w.heap.size + 1, 1, none⟩ = some (.slice (some ⟨B, 0, none⟩) 3 3) := H61.out.cell 1
  have d2 : w6.cell? ⟨w.heap.size + 1, 2, none⟩ = some (.slice none 0 0) := H61.out.cell 2
  have l6 : w.heap.size + 1 < w6.heap.size := H61.out.lt
  refine ⟨w6, by rw [← HW6.out]; go_simp, by go_simp, ?_⟩
  clear a0 a1 a2 b0 b1 b2 f0 f1 f2 g0 g1 g2 l1 l0 HW6
  have e0 : w6.cell? ⟨w.heap.size, 0, none⟩ = some (.int .i64 2) := H60.out.cell 0
  have e1 : w6.cell? ⟨w.heap.size, 1, none⟩ = some (.slice Aw 3 cw) := H60.out.cell 1
  have e2 : w6.cell? ⟨w.heap.size, 2, none⟩ = some (.slice Af 1 cf) := H60.out.cell 2
  have g0 := H61.out.frozen 0
  have g1 := H61.out.frozen 1
  have g2 := H61.out.frozen 2
  simp only [List.drop_succ_cons, List.drop_zero]
  go_wp2_with fail
  have r1 := H61.out.set 0 (.int .i64 2)
  have r2 := r1.set 1 (.slice (some ⟨B, 0, none⟩) 3 3)
  have k9 := HK6.out.trans (((Kept.set (l := [3, 34, 63, 27]) H61.out (by decide) 0 (.int .i64 2)).trans (Kept.set r1 (by decide) 1 (.slice (some ⟨B, 0, none⟩) 3 3))).trans (Kept.set r2 (by decide) 2 (.slice none 0 0)))
  have hc9 := HC.out.kept k9 (by simp) (by simp) (by simp) (by simp)
  obtain ⟨A1, c1, A2, c2, e1, e2, hq⟩ := hc9.qat
  injection e1 with e1 x1 e1'
  injection e2 with e2 x2 e2'
  clear x1 x2
  subst e1 e1' e2 e2'
  have hs9 := k9.1
  have hz5 := HB5.out.size
  refine bodyPost_ret (v := .tuple #[.agg #[.int .i64 2, .slice Aw 3 cw, .slice Af 1 cf], .agg #[.int .i64 2, .slice (some ⟨B, 0, none⟩) 3 3, .slice none 0 0]]) (by simp [results, Tryz.results23, go_sem, *]) rfl ⟨⟨Aw, cw, Af, cf, _, 3, rfl, hq, HQA.out _ (fun b h1 h2 => ?_) (Nat.le_trans HZ5.out hs9)⟩, ?_⟩
  · rw [Below.heap_setCell _ _ _ b (by show b ≠ w.heap.size + 1; omega), Below.heap_setCell _ _ _ b (by show b ≠ w.heap.size + 1; omega), Below.heap_setCell _ _ _ b (by show b ≠ w.heap.size + 1; omega)]
    rw [HH6.out b (by omega)]
    exact HBW.out.block b h2
  · exact Below.setCell (p := ⟨w.heap.size + 1, 2, none⟩) (Below.setCell (p := ⟨w.heap.size + 1, 1, none⟩) (Below.setCell (p := ⟨w.heap.size + 1, 0, none⟩) HB6.out (by simp) (.int .i64 2)) (by simp) (.slice (some ⟨B, 0, none⟩) 3 3)) (by simp) (.slice none 0 0)
end Go.Proofs.YtifkjnmnflhnoaaGreatDoor

namespace Go.Proofs.YtifkjnmnflhnoaaGreatDoor
open Go.RowKit Go.Sort
/-- SameInts of two slices that read as the same list -/
theorem sameInts_same (A B : Option Addr) (n c c' : Nat) (f : Nat → Int) (w : World) (hn : n ≤ 9223372036854775807) (hf : IntsAt w A n f) (hg : IntsAt w B n f) :
    Calls Tryz.prog 27 #[.slice A n c, .slice B n c'] w fun e w' => e = .returned (.bool true) ∧ Below w.heap.size w w' := by
  have := sameInts_any A B n n c c' f f w hn hn hf hg
  rw [show (decide (n = n) && !anyB (fun i => f i != f i) n) = true by rw [anyB_false.2 fun i _ => by simp]; simp] at this
  exact this
theorem exE_small : exE.Small := exE_fits.small
end Go.Proofs.YtifkjnmnflhnoaaGreatDoor

namespace Go.Proofs.YtifkjnmnflhnoaaGreatDoor
open Go.RowKit Go.Sort
end Go.Proofs.YtifkjnmnflhnoaaGreatDoor

namespace Go.Proofs.YtifkjnmnflhnoaaGreatDoor
open Go.RowKit Go.Sort
open Classical in
/-- the list that Left hands back -/
noncomputable def Qt.leftO (t : Qt) : List Int := if t.Ok then t.leftL else []
end Go.Proofs.YtifkjnmnflhnoaaGreatDoor

namespace Go.Proofs.YtifkjnmnflhnoaaGreatDoor
open Go.RowKit Go.Sort
theorem leftO_ok {t : Qt} (ok : t.Ok) : t.leftO = t.leftL := if_pos ok
theorem wellB_in {t : Qt} (ok : t.Ok) {p : Nat} (hp : (p : Int) < t.wells) : t.wellB (p : Int) = true := by rw [wellB_ok ok]; exact inR_t (by omega)
end Go.Proofs.YtifkjnmnflhnoaaGreatDoor

namespace Go.Proofs.YtifkjnmnflhnoaaGreatDoor
open Go.RowKit Go.Sort
/-- a span inside another one -/
def inSpan (a b : Int × Int) : Bool := decide (b.1 ≤ a.1) && decide (a.1 ≤ a.2) && decide (a.2 ≤ b.2)
end Go.Proofs.YtifkjnmnflhnoaaGreatDoor

namespace Go.Proofs.YtifkjnmnflhnoaaGreatDoor
open Go.RowKit Go.Sort
/-! ### An append to a row of the call's own: where the row lies afterwards -/
theorem run_append_own2 {P : Program} (w : World) (base : Nat) (t ty e : TypeId) (i : TypeInfo) (z : Value) (size bytes : Nat) (ht : P.underlying t = some (.slice e)) (hi : P.info? e = some i) (hz : i.zero = some z)
    (hsize : i.size = size) (hby : i.bytes = bytes) (hzs : z.cells.size = size) (hsz : 0 < size)
    (v : Value) (n : Nat) (xs : List Value) (hown : w.ownsRow base e size v n xs)
    (a : Addr) (m c : Nat) (news : List Value) (hl : news.length = m * size) (hnews : ∀ j u, news[j]? = some u → w.cell? (a.add j) = some u) (h1 : ∀ u ∈ news, u.oneCell' = true)
    (h63 : n + m ≤ maxLen) (hbytes : (n + m) * bytes ≤ 140737488355328) (hbase : base ≤ w.heap.size) :
    ∃ v' w', (Builtin.append_ #[t, t] ty #[v, .slice (some a) m c]).run P w = .ok v' w' ∧ w'.ownsRow base e size v' (n + m) (xs ++ news) ∧ w.grownBy w' v.ownBlock ∧ (v'.ownBlock = v.ownBlock ∨ ∀ g, v'.ownBlock = some g → w.heap.size ≤ g) := by
  obtain ⟨v', w', hr, h2, h3, _⟩ := run_append_own (P := P) w base t ty e i z size bytes ht hi hz hsize hby hzs hsz v n xs hown a m c news hl hnews h1 h63 hbytes hbase
  refine ⟨v', w', hr, h2, h3, ?_⟩
  rcases id hown.2 with ⟨rfl, rfl⟩ | ⟨g, cap, cur, rfl, hbg, hg, hnc, hcm, hcs, htake⟩
  · have hx : xs = [] := List.eq_nil_of_length_eq_zero (by simpa using hown.1)
    subst hx
    obtain ⟨v2, w2, hr2, h4, _, _⟩ := run_append_own (P := P) w w.heap.size t ty e i z size bytes ht hi hz hsize hby hzs hsz (.slice none 0 0) 0 [] (World.ownsRow_nil _ _ _ _) a m c news hl hnews h1 h63 hbytes (Nat.le_refl _)
    rw [hr] at hr2
    injection hr2 with e1 e2
    subst e1 e2
    exact .inr fun g hg => (owns_typed h4 g hg).1
  · by_cases hroom : n + m ≤ cap
    · have hfit : n * size + news.length ≤ cur.size := by rw [hl, hcs, ← Nat.add_mul]; exact Nat.mul_le_mul_right _ hroom
      have hr2 := run_append_room (P := P) w t ty e i ht hi g n cap cur hg a m c news (by rw [hl, hsize]) hnews h1 hroom (by rw [hsize]; exact hfit)
      rw [hr] at hr2
      injection hr2 with e1 e2
      subst e1
      exact .inl rfl
    · obtain ⟨v2, w2, hr2, h4, _⟩ := run_append_arg_grows (P := P) w t ty e i z size bytes ht hi hz hsize hby hzs hsz ⟨g, 0, none⟩ n cap xs hown.1 (fun j u h => hown.cells (g := g) rfl j u h) a m c news hl hnews (by omega) h63 hbytes
      rw [hr] at hr2
      injection hr2 with e1 e2
      subst e1 e2
      exact .inr fun g hg => (owns_typed h4 g hg).1
/-- 'append(out, xs...)' of a slice of the call's own, as the one operation of a region, with where it lies -/
theorem stir_own2 {P : Program} {o : Oper} {a : Act} {w : World} {R : World → Value → Prop} (s x : Operand) (t : TypeId) (hop : o.op = Op.call { callee := Callee.builtin Builtin.append, args := #[s, x], argTypes := #[t, t] })
    (base : Nat) (e : TypeId) (z : Value) (size bytes : Nat) (hinfo : (P.info? e).map (fun i => (i.zero, i.size, i.bytes)) = some (some z, size, bytes)) (ht : P.underlying t = some (.slice e)) (hzs : z.cells.size = size) (hsz : 0 < size)
    (v : Value) (n : Nat) (xs : List Value) (hs : a.eval s = v) (hown : w.ownsRow base e size v n xs) (ad : Addr) (m c : Nat) (news : List Value) (hx : a.eval x = .slice (some ad) m c) (hl : news.length = m * size) (hnews : ∀ j u, news[j]? = some u → w.cell? (ad.add j) = some u) (h1 : ∀ u ∈ news, u.oneCell' = true)
    (h63 : n + m ≤ maxLen) (hbytes : (n + m) * bytes ≤ 140737488355328) (hbase : base ≤ w.heap.size)
    (h : ∀ v' w', w'.ownsRow base e size v' (n + m) (xs ++ news) → w.grownBy w' v.ownBlock → (v'.ownBlock = v.ownBlock ∨ ∀ g, v'.ownBlock = some g → w.heap.size ≤ g) → R w' v') : Oper.stirAt P o a w (fun _ _ => True) R := by
  obtain ⟨i0, hi, iz0, iz1, iz2⟩ := info_parts hinfo
  obtain ⟨v', w', hrun, h2, h3, h4⟩ := run_append_own2 (P := P) w base t o.type e i0 z size bytes ht hi iz0 iz1 iz2 hzs hsz v n xs hown ad m c news hl hnews h1 h63 hbytes hbase
  unfold Oper.stirAt
  simp only [execOp, hop, resolve, invoke, builtin, List.map_toArray, List.map_cons, List.map_nil, hs, hx, hrun, Result.andThen, Sem.run_bind, Sem.run_pure, Oper.stirUpon]
  exact ⟨trivial, h v' w' h2 h3 h4⟩
/-! ### Lists of lists of tests -/
end Go.Proofs.YtifkjnmnflhnoaaGreatDoor

namespace Go.Proofs.YtifkjnmnflhnoaaGreatDoor
open Go.RowKit Go.Sort
end Go.Proofs.YtifkjnmnflhnoaaGreatDoor

namespace Go.Proofs.YtifkjnmnflhnoaaGreatDoor
open Go.RowKit Go.Sort
end Go.Proofs.YtifkjnmnflhnoaaGreatDoor

namespace Go.Proofs.YtifkjnmnflhnoaaGreatDoor
open Go.RowKit Go.Sort
end Go.Proofs.YtifkjnmnflhnoaaGreatDoor

namespace Go.Proofs.YtifkjnmnflhnoaaGreatDoor
open Go.RowKit Go.Sort
end Go.Proofs.YtifkjnmnflhnoaaGreatDoor

namespace Go.Proofs.YtifkjnmnflhnoaaGreatDoor
open Go.RowKit Go.Sort
end Go.Proofs.YtifkjnmnflhnoaaGreatDoor

namespace Go.Proofs.YtifkjnmnflhnoaaGreatDoor
open Go.RowKit Go.Sort
theorem add_sub (t : Qt) (y : Fact) : ∀ a, a ∈ (t.add y).leftL → a ∈ t.leftL := fun a ha => by
  rw [leftL_add] at ha
  exact (List.mem_filter.1 ha).1
theorem add_small {t : Qt} (h : t.Fits) (y : Fact) : (t.add y).Small :=
  ⟨by have := h.1; show t.nw ≤ _; omega, by have := h.2.1; show t.nf + 1 ≤ _; omega, fun i hi k hk => by have := (h.2.2 i hi).2 k hk; show (t.world i).len k ≤ _; omega⟩
theorem more_know {t o : Qt} {y : Fact} (e : t.add y = o) (ok : t.Ok) (ok' : o.Ok) (hne : o.leftO.length ≠ 0) : t.knowErr true = 0 ∧ o.knowErr true = 0 ∧ o.leftL ≠ [] := by
  subst e
  rw [leftO_ok ok'] at hne
  have h1 : (t.add y).leftL ≠ [] := fun h => hne (by rw [h]; rfl)
  obtain ⟨a, ha⟩ := List.exists_mem_of_ne_nil _ h1
  exact ⟨knowErr_ok ok (List.ne_nil_of_mem (add_sub t y a ha)), knowErr_ok ok' h1, h1⟩
theorem add_wells {t o : Qt} {y : Fact} (e : t.add y = o) : o.wells = t.wells := by subst e; rfl
theorem more_between {t o : Qt} {y : Fact} (e : t.add y = o) (ok : t.Ok) (ok' : o.Ok) (hne : o.leftL ≠ []) {p q : Nat} (h1 : t.knowErr (t.wellB (p : Int) && t.wellB (q : Int)) = 0) (h2 : o.knowErr (o.wellB (p : Int) && o.wellB (q : Int)) = 0) :
    inSpan (o.betweenV p q) (t.betweenV p q) = true ∧ ∀ law, harmK (t.between p q) law ≠ 3 → harmK (o.between p q) law = harmK (t.between p q) law := by
  subst e
  obtain ⟨a, b, c⟩ := spanOf_sub (f := fun a => t.F a (p, q)) (add_sub t y) hne
  constructor
  · unfold Qt.betweenV inSpan
    rw [if_pos h1, if_pos h2, Int.toNat_natCast, Int.toNat_natCast, between_of, between_of]
    simp only [Bool.and_eq_true, decide_eq_true_eq]
    exact ⟨⟨a, b⟩, c⟩
  · intro law hk
    rw [between_of] at hk ⊢
    rw [between_of]
    exact harmK_sub a b c hk
end Go.Proofs.YtifkjnmnflhnoaaGreatDoor

namespace Go.Proofs.YtifkjnmnflhnoaaGreatDoor
open Go.RowKit Go.Sort
end Go.Proofs.YtifkjnmnflhnoaaGreatDoor

namespace Go.Proofs.YtifkjnmnflhnoaaGreatDoor
open Go.RowKit Go.Sort
end Go.Proofs.YtifkjnmnflhnoaaGreatDoor

namespace Go.Proofs.YtifkjnmnflhnoaaGreatDoor
open Go.RowKit Go.Sort
end Go.Proofs.YtifkjnmnflhnoaaGreatDoor

namespace Go.Proofs.YtifkjnmnflhnoaaGreatDoor
open Go.RowKit Go.Sort
theorem owns_box {w : World} {base : Nat} {e : TypeId} {size g n cap : Nat} {xs : List Value} (h : w.ownsRow base e size (.slice (some ⟨g, 0, none⟩) n cap) n xs) : base ≤ g ∧ ∃ cur, TBox w g e cur ∧ cur.toList.take (n * size) = xs := by
  rcases h.2 with ⟨e0, _⟩ | ⟨g', cap', cur, e', h3, h4, h5, h6, h7, h8⟩
  · cases e0
  · injection e' with e1 _ e3
    injection e1 with e1
    injection e1 with e1
    subst e1 e3
    exact ⟨h3, cur, h4, h8⟩
end Go.Proofs.YtifkjnmnflhnoaaGreatDoor

namespace Go.Proofs.YtifkjnmnflhnoaaGreatDoor
open Go.RowKit Go.Sort
section
variable {w : World} {b : Nat} {t : TypeId}
theorem TBox.c6 {x0 x1 x2 x3 x4 x5 : Value} (h : TBox w b t #[x0, x1, x2, x3, x4, x5]) : w.cell? ⟨b, 0, none⟩ = some x0 ∧ w.cell? ⟨b, 1, none⟩ = some x1 ∧ w.cell? ⟨b, 2, none⟩ = some x2 ∧ w.cell? ⟨b, 3, none⟩ = some x3 ∧ w.cell? ⟨b, 4, none⟩ = some x4 ∧ w.cell? ⟨b, 5, none⟩ = some x5 ∧ b < w.heap.size := ⟨h.cell 0, h.cell 1, h.cell 2, h.cell 3, h.cell 4, h.cell 5, h.lt⟩
end
end Go.Proofs.YtifkjnmnflhnoaaGreatDoor

