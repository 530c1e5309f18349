/- Parts joined: what all claims of this seat need. -/
import Derived.Test.YthnojgdckkdcgaaDoorNCK
import Derived.Test.YthnojgdckkdcgaaDoorNCC
set_option linter.unusedSimpArgs false
set_option linter.unusedVariables false
namespace Go.Proofs.YthnojgdckkdcgaaDoor
open Go.RowKit Go.Sort
set_option maxHeartbeats 2000000 in
set_option maxRecDepth 100000 in
theorem index_pnt (A : Option Addr) (n c f : Nat) (cs : Array Value) (g : Nat → Pnt) (p : Nat → Bool) (w : World) (hn : n ≤ 9223372036854775807) (hr : PntsAt w A n g) (hcf : Enters f)
    (hf : ∀ i, i < n → ∀ w', Below w.heap.size w w' → Calls Tryd.prog f (#[.agg #[.int .i64 (g i).lo, .int .i64 (g i).hi, .int .i64 (g i).cost]] ++ cs) w' fun e w'' => e = .returned (.bool (p i)) ∧ Below w'.heap.size w' w'') :
    Calls Tryd.prog 64 #[.slice A n c, .func (.func f) #[] cs] w (Found (anyB p n) w) := by
  have HC := Lib.hid hr
  have HF := Lib.hid hf
  unfold Enters at hcf
  clear hr hf
  go_enter Tryd.func64, Tryd.ntmps64
  go_wp2_with fail
  go_loopw [5, 8] (fun _ i wr => ∃ k : Nat, k ≤ n ∧ i = .int .i64 k ∧ anyB p k = false ∧ Below w.heap.size w wr) (fun _ i _ => n - (intOf i).toNat)
  case atStart => exact ⟨0, Nat.zero_le _, rfl, rfl, Below.refl _ _⟩
  case round =>
    obtain ⟨k, hk, rfl, hno, hbel⟩ := hrel
    have HN := Lib.hid hno
    have HL := Lib.hid hbel
    clear hno
    by_cases hlt : k < n
    · rcases HC.out with h0 | ⟨b, o, hA, hb, hcell⟩
      · omega
      obtain ⟨c0, c1, c2⟩ := hcell k hlt
      have HK := Lib.hid hlt
      obtain ⟨bk, hbk⟩ : ∃ bk, p k = bk := ⟨_, rfl⟩
      have HCC := Lib.hid (hbk ▸ HF.out k HK.out _ hbel : Calls Tryd.prog f (#[.agg #[.int .i64 (g k).lo, .int .i64 (g k).hi, .int .i64 (g k).cost]] ++ cs) wr fun e w'' => e = .returned (.bool bk) ∧ Below wr.heap.size wr w'')
      have HBK := Lib.hid hbk
      clear hbk hcell
      subst hA
      obtain ⟨bc, bf⟩ := bcell hbel
      go_wp2_with fail
      refine HCC.out.mono ?_
      rintro e w4 ⟨rfl, hb4⟩
      have HL4 := Lib.hid (bTrans HL.out hb4)
      clear hb4 hbel
      cases bk
      · go_wp2_with fail
        go_roundw
        case rel => exact ⟨k + 1, by omega, by go_num, anyB_step HN.out HBK.out, HL4.out⟩
        case measure => simp [intOf]; omega
      · go_wp2_with fail
        go_ret
        exact ⟨k, rfl, by rw [anyB_hit HK.out HBK.out]; simp, HL4.out⟩
    · obtain rfl : k = n := by omega
      go_wp2_with fail
      go_ret
      exact ⟨-1, rfl, by simp [HN.out], hbel⟩
theorem contains_pnt (A : Option Addr) (n c f : Nat) (cs : Array Value) (g : Nat → Pnt) (p : Nat → Bool) (w : World) (hn : n ≤ 9223372036854775807) (hr : PntsAt w A n g) (hcf : Enters f)
    (hf : ∀ i, i < n → ∀ w', Below w.heap.size w w' → Calls Tryd.prog f (#[.agg #[.int .i64 (g i).lo, .int .i64 (g i).hi, .int .i64 (g i).cost]] ++ cs) w' fun e w'' => e = .returned (.bool (p i)) ∧ Below w'.heap.size w' w'') :
    Calls Tryd.prog 54 #[.slice A n c, .func (.func f) #[] cs] w fun e w' => e = .returned (.bool (anyB p n)) ∧ Below w.heap.size w w' := by
  go_enter Tryd.func54, Tryd.ntmps54
  go_wp2_with (go_at_call 64; refine (index_pnt A n c f cs g p _ hn hr hcf hf).mono ?_; rintro e w' ⟨k, rfl, hk, hb⟩; have HK := Lib.hid hk; clear hk)
  all_goals
    go_ret
    exact ⟨ret_bool (by rw [← HK.out]), hb⟩
theorem withinD_b (n lo hi : Int) (b : Bool) (w : World) (h : inR n lo hi = b) : Calls Tryd.prog 44 #[.int .i64 n, .int .i64 lo, .int .i64 hi] w fun e w' => e = .returned (.bool b) ∧ Below w.heap.size w w' := by
  have H := Lib.hid h
  clear h
  go_enter Tryd.func44, Tryd.ntmps44
  go_wp2
  all_goals
    go_ret
    exact ⟨ret_bool (by rw [← H.out]; unfold inR; simp; omega), Below.refl _ _⟩
set_option maxHeartbeats 2000000 in
set_option maxRecDepth 100000 in
theorem partD_any (Ap Ao : Option Addr) (cp co : Nat) (d : Dk) (f p t : Nat) (x y : Int) (w : World) (hp : p < d.np) (hT : PntsAt w Ap d.np d.pt) (hx : 0 ≤ d.cost p ∧ d.cost p ≤ 20) (hb1 : 0 ≤ x ∧ x ≤ 10000) (hb2 : 0 ≤ y ∧ y ≤ 10000) :
    Calls Tryd.prog 98 #[.agg #[.slice Ap d.np cp, .slice Ao d.no co], .int .i64 (f : Int), .int .i64 (p : Int), .int .i64 (t : Int), .int .i64 x, .int .i64 y] w fun e w' => e = .returned (.int .i64 (d.cost p + max x y)) ∧ Below w.heap.size w w' := by
  have HD := Lib.hid (bAlloc (Below.refl w.heap.size w) (.cells #[.slice Ap d.np cp, .slice Ao d.no co] 73))
  obtain ⟨hi, hhi⟩ : ∃ hi, (if x < y then y else x) = hi := ⟨_, rfl⟩
  have e1 : max x y = hi := by rw [← hhi, Int.max_def]; split <;> split <;> omega
  have HE := Lib.hid e1
  rcases hT with h0 | ⟨b, o, rfl, hlt, hc⟩
  · omega
  obtain ⟨c0, c1, c2⟩ := hc p hp
  have hx2 : (d.pt p).cost = d.cost p := rfl
  rw [hx2] at c2
  obtain ⟨q, hq⟩ : ∃ q, d.cost p = q := ⟨_, rfl⟩
  rw [hq] at c2 hx
  rw [hq]
  have hw : IntKind.i64.wrap (q + hi) = q + hi := IntWalk.i64_in _ (by rw [← hhi]; split <;> omega)
  have k1 : (p : Int) < (d.np : Int) := by omega
  have k0 : (0 : Int) ≤ (p : Int) := by omega
  clear hc hp hq hx2 hx hb1 hb2 e1 c0 c1
  go_enter Tryd.func98, Tryd.ntmps98
  go_wp2_with fail
  go_ret
  exact ⟨by rw [HE.out]; rfl, HD.out⟩
end Go.Proofs.YthnojgdckkdcgaaDoor

namespace Go.Proofs.YthnojgdckkdcgaaDoor
open Go.RowKit Go.Sort
def TabB (F : Tab) : Prop := ∀ a b : Nat, a ≤ b → 0 ≤ (F a b).1 ∧ (F a b).1 ≤ 20 * ((b : Int) - a)
theorem tabPt_bd {cost : Nat → Int} {np : Nat} (hc : ∀ p, p < np → 0 ≤ cost p ∧ cost p ≤ 20) {F : Tab} (hF : TabB F) {f t : Nat} (ht : t < np) : ∀ k, f + k < t → 0 ≤ (tabPt cost F f t k).1 ∧ (tabPt cost F f t k).1 ≤ 20 * ((t : Int) - f)
  | 0, h => hF f t (by omega)
  | k + 1, h => by
    have ih := tabPt_bd (f := f) hc hF ht k (by omega)
    have g1 := hF f (f + 1 + k) (by omega)
    have g2 := hF (f + 1 + k) t (by omega)
    obtain ⟨a0, a1⟩ := g1
    obtain ⟨b0, b1⟩ := g2
    obtain ⟨c0, c1⟩ := hc (f + 1 + k) (by omega)
    show 0 ≤ (if _ then _ else _ : Int × Int).1 ∧ (if _ then _ else _ : Int × Int).1 ≤ _
    split
    · show 0 ≤ cost (f + 1 + k) + max _ _ ∧ cost (f + 1 + k) + max _ _ ≤ _
      rw [Int.max_def]
      split <;> omega
    · exact ih
theorem upd2_bd {F : Tab} (hF : TabB F) {f t : Nat} {v : Int × Int} (hv : 0 ≤ v.1 ∧ v.1 ≤ 20 * ((t : Int) - f)) : TabB (upd2 F f t v) := fun a b h => by
  unfold upd2
  split
  · rename_i e
    obtain ⟨rfl, rfl⟩ := e
    exact hv
  · exact hF a b h
theorem tabFrom_bd {cost : Nat → Int} {np n m : Nat} (hc : ∀ p, p < np → 0 ≤ cost p ∧ cost p ≤ 20) (hn : n < np) (hm : 1 ≤ m) {F : Tab} (hF : TabB F) : ∀ k, k + m ≤ n + 1 → TabB (tabFrom cost m F k)
  | 0, _ => hF
  | k + 1, h => by
    have ih := tabFrom_bd hc hn hm hF k (by omega)
    exact upd2_bd ih (tabPt_bd hc ih (by omega) (m - 1) (by omega))
theorem tabMany_bd {cost : Nat → Int} {np n : Nat} (hc : ∀ p, p < np → 0 ≤ cost p ∧ cost p ≤ 20) (hn : n < np) : ∀ j, j = 0 ∨ j + 1 ≤ n → TabB (tabMany cost n j)
  | 0, _ => fun a b h => ⟨Int.le_refl _, by show (0 : Int) ≤ _; omega⟩
  | j + 1, h => tabFrom_bd hc hn (by omega) (tabMany_bd hc hn j (by omega)) _ (by omega)
theorem tabPt_hit {cost : Nat → Int} {F : Tab} {f t k p : Nat} {c : Int × Int} {v : Int} (hc : tabPt cost F f t k = c) (hp : p = f + 1 + k) (hv : cost p + max (F f p).1 (F p t).1 = v) (h : c.2 = 0 ∨ v < c.1) : tabPt cost F f t (k + 1) = (v, (p : Int)) := by
  subst hp hv hc
  exact if_pos h
theorem tabPt_miss {cost : Nat → Int} {F : Tab} {f t k p : Nat} {c : Int × Int} {v : Int} (hc : tabPt cost F f t k = c) (hp : p = f + 1 + k) (hv : cost p + max (F f p).1 (F p t).1 = v) (h : ¬ (c.2 = 0 ∨ v < c.1)) : tabPt cost F f t (k + 1) = c := by
  subst hp hv hc
  exact if_neg h
theorem tabFrom_succ {cost : Nat → Int} {m : Nat} {F G : Tab} {k t q : Nat} (hG : tabFrom cost m F k = G) (ht : k + m = t) (hq : q = m - 1) : tabFrom cost m F (k + 1) = upd2 G k t (tabPt cost G k t q) := by
  subst hG ht hq
  rfl
theorem tabMany_succ {cost : Nat → Int} {n j m k : Nat} (hm : m = j + 2) (hk : k = n + 1 - m) : tabMany cost n (j + 1) = tabFrom cost m (tabMany cost n j) k := by
  subst hk hm
  rfl
def zeroB (cs : Array Value) : Bool := (List.range 128).all fun i => match cs[i]? with
  | some (.int .i64 n) => n == 0
  | _ => false
theorem zeroB_get {cs : Array Value} (h : zeroB cs = true) {i : Nat} (hi : i < 128) : cs[i]? = some (.int .i64 0) := by
  have h1 := List.all_eq_true.1 h i (List.mem_range.2 hi)
  revert h1
  cases cs[i]? with
  | none => exact fun h => by cases h
  | some v =>
    cases v with
    | int k n =>
      cases k <;> first | exact fun h => by rw [eq_of_beq h] | exact fun h => by cases h
    | _ => exact fun h => by cases h
theorem TabC.zero {w : World} {b : Nat} {cs : Array Value} (h : TBox w b 96 cs) (hz : zeroB cs = true) : TabC w b fun _ _ => (0, 0) := ⟨cs, h, fun f t hf ht => ⟨zeroB_get hz (by omega), zeroB_get hz (by omega)⟩⟩
end Go.Proofs.YthnojgdckkdcgaaDoor

namespace Go.Proofs.YthnojgdckkdcgaaDoor
open Go.RowKit Go.Sort
theorem nil_part (v : Value) (w : World) : (nilAhead (Tryd.prog.types.size + Made.depth) 73 v "steening/aqueduct.part").run Tryd.prog w = .ok (some false) w := by kernel_rfl
theorem meth_part (v : Value) (args : Array Value) (w : World) : (callMethod (.iface 73 v) "steening/aqueduct.part" args).run Tryd.prog w = .ok (.enter 98 (#[v] ++ args)) w := by kernel_rfl
theorem quiet_nil {o : Oper} {a : Act} {C : World → Prop} {K : Act → Prop} (x : Operand) (h : o.op = .nilCheck x) (v : Value) (cap : Array Value) (he : a.eval x = .func (.method "steening/aqueduct.part") #[.iface 73 v] cap) (hk : K (a.put o.dst (.func (.method "steening/aqueduct.part") #[.iface 73 v] cap))) : o.quiet Tryd.prog a C K := by
  refine ⟨_, fun w _ => ?_, hk⟩
  unfold Oper.quietAt execOp
  rw [h]
  simp only [he]
  have hn := nil_part v w
  simp [go_sem] at hn
  simp [go_sem, hn, Oper.quietUpon]
theorem quiet_part {o : Oper} {a : Act} {C : World → Prop} {K : Act → Prop} (r x1 x2 x3 x4 x5 : Operand) (ats : Array TypeId) (h : o.op = .call { callee := .invoke r "steening/aqueduct.part", args := #[x1, x2, x3, x4, x5], argTypes := ats }) (v : Value) (he : a.eval r = .iface 73 v) (u : Value) (hc : ∀ w, C w → Calls Tryd.prog 98 #[v, a.eval x1, a.eval x2, a.eval x3, a.eval x4, a.eval x5] w fun e w' => e = .returned u ∧ C w') (hk : K (a.put o.dst u)) : o.quiet Tryd.prog a C K := by
  refine ⟨u, fun w hw => ?_, hk⟩
  have h1 : ((execOp a.eval o).run Tryd.prog w) = .ok (.enter 98 #[v, a.eval x1, a.eval x2, a.eval x3, a.eval x4, a.eval x5]) w := by
    unfold execOp
    rw [h]
    have h2 := meth_part v #[a.eval x1, a.eval x2, a.eval x3, a.eval x4, a.eval x5] w
    rw [← he] at h2
    simp [resolve, invoke, Sem.run_bind, Sem.run_pure, Result.andThen]
    simpa using h2
  unfold Oper.quietAt
  rw [h1]
  exact ⟨rfl, hc w hw⟩
set_option maxHeartbeats 8000000 in
set_option maxRecDepth 100000 in
theorem reckon_any (Ap Ao : Option Addr) (cp co : Nat) (d : Dk) (w : World) (ok : d.Ok) (hT : DAt w Ap Ao d) :
    Calls Tryd.prog 26 #[.agg #[.slice Ap d.np cp, .slice Ao d.no co], .iface 73 (.agg #[.slice Ap d.np cp, .slice Ao d.no co])] w fun e w' => (∃ b, e = .returned (.pointer (some ⟨b, 0, none⟩)) ∧ TabC w' b (tabAll d.cost d.no)) ∧ Below w.heap.size w w' := by
  have HOK := Lib.hid ok
  have HT := Lib.hid hT
  have HCO := Lib.hid (show ∀ p, p < d.np → 0 ≤ d.cost p ∧ d.cost p ≤ 20 from fun p hp => (ok.pt p hp).2.2.2)
  have hno := ok.no
  have HNP := Lib.hid ok.np
  have HBD := Lib.hid (TBox.new w #[.slice Ap d.np cp, .slice Ao d.no co] 25)
  have HB0 := Lib.hid (bAlloc (Below.refl w.heap.size w) (.cells #[.slice Ap d.np cp, .slice Ao d.no co] 25))
  clear ok hT
  go_enter Tryd.func26, Tryd.ntmps26
  go_wp2_with fail
  go_loopw [6] (fun s wr => ∃ j m : Nat, m = j + 2 ∧ (j = 0 ∨ j + 1 ≤ d.no) ∧ s = .int .i64 (m : Int) ∧ TabC wr (w.heap.size + 1) (tabMany d.cost d.no j) ∧ Below (w.alloc (.cells #[.slice Ap d.np cp, .slice Ao d.no co] 25)).heap.size (w.alloc (.cells #[.slice Ap d.np cp, .slice Ao d.no co] 25)) wr) (fun s _ => d.no + 2 - (intOf s).toNat)
  case atStart => exact ⟨0, 2, rfl, .inl rfl, rfl, TabC.zero (cs := Tryd.zeroCells96) (by have := TBox.new (w.alloc (.cells #[.slice Ap d.np cp, .slice Ao d.no co] 25)) Tryd.zeroCells96 96; simpa using this) (by kernel_rfl), bAlloc (Below.refl _ _) _⟩
  case round =>
    obtain ⟨j, m, hm, hj, rfl, htab, hb⟩ := hrel
    have HM := Lib.hid hm
    have HJ := Lib.hid hj
    have HTAB := Lib.hid htab
    have HL := Lib.hid hb
    have hbd := (HBD.out.mono hb)
    obtain ⟨D_0, D_1, D_l⟩ := hbd.c2
    have m2 : 2 ≤ m := by omega
    clear hm hj htab hb hbd
    by_cases hle : m ≤ d.no
    · have q1 : (m : Int) ≤ (d.no : Int) := by omega
      go_wp2_with fail
      obtain ⟨wm, hwm⟩ : ∃ y, y = wr := ⟨_, rfl⟩
      subst hwm
      clear D_0 D_1 D_l
      go_loopw [7] (fun s wr => ∃ k : Nat, k + m ≤ d.no + 1 ∧ s = .int .i64 (k : Int) ∧ TabC wr (w.heap.size + 1) (tabFrom d.cost m (tabMany d.cost d.no j) k) ∧ Below (w.alloc (.cells #[.slice Ap d.np cp, .slice Ao d.no co] 25)).heap.size (w.alloc (.cells #[.slice Ap d.np cp, .slice Ao d.no co] 25)) wr) (fun s _ => d.no + 2 - (intOf s).toNat)
      case atStart => exact ⟨0, by omega, rfl, HTAB.out, HL.out⟩
      case round =>
        obtain ⟨k, hk, rfl, htab, hb⟩ := hrel
        have HTK := Lib.hid htab
        have HLK := Lib.hid hb
        have hbd := (HBD.out.mono hb)
        obtain ⟨D_0, D_1, D_l⟩ := hbd.c2
        obtain ⟨t0, ht0⟩ : ∃ t0, k + m = t0 := ⟨_, rfl⟩
        have HT0 := Lib.hid ht0
        have hw1 : IntKind.i64.wrap ((k : Int) + (m : Int)) = (t0 : Int) := by rw [← ht0]; exact IntWalk.i64_in _ (by omega)
        have hk0 : (0 : Int) ≤ (k : Int) := by omega
        have ht00 : (0 : Int) ≤ (t0 : Int) := by omega
        clear htab hb hbd
        by_cases hle2 : t0 ≤ d.no
        · have q2 : (t0 : Int) ≤ (d.no : Int) := by omega
          have k8 : (k : Int) < 8 := by omega
          have t8 : (t0 : Int) < 8 := by omega
          have k7 : k < 8 := by omega
          have t7 : t0 < 8 := by omega
          obtain ⟨p0, hp0⟩ : ∃ p0, k + 1 = p0 := ⟨_, rfl⟩
          have HP0 := Lib.hid hp0
          have hw2 : IntKind.i64.wrap ((k : Int) + 1) = (p0 : Int) := by rw [← hp0]; exact IntWalk.i64_in _ (by omega)
          have HKT := Lib.hid (show k + 2 ≤ t0 by omega)
          have hbl := HTK.out.lt
          clear ht0 hp0
          go_wp2_with fail
          obtain ⟨wk, hwk⟩ : ∃ y, y = wr := ⟨_, rfl⟩
          subst hwk
          clear D_0 D_1 D_l hbl
          obtain ⟨G, hG⟩ : ∃ G, tabFrom d.cost m (tabMany d.cost d.no j) k = G := ⟨_, rfl⟩
          have HGE := Lib.hid hG
          have HGB := Lib.hid (show TabB G from hG ▸ tabFrom_bd (n := d.no) HCO.out (by have := HNP.out; omega) (by omega) (tabMany_bd HCO.out (by have := HNP.out; omega) j HJ.out) k hk)
          clear hG
          go_loopw [10] (fun s wr => ∃ q p : Nat, p = k + 1 + q ∧ p ≤ t0 ∧ s = .int .i64 (p : Int) ∧ TabC wr (w.heap.size + 1) (upd2 G k t0 (tabPt d.cost G k t0 q)) ∧ Below (w.alloc (.cells #[.slice Ap d.np cp, .slice Ao d.no co] 25)).heap.size (w.alloc (.cells #[.slice Ap d.np cp, .slice Ao d.no co] 25)) wr) (fun s _ => t0 - (intOf s).toNat)
          case atStart => exact ⟨0, p0, HP0.out.symm, by have := HP0.out; have := HKT.out; omega, rfl, by show TabC _ _ (upd2 G k t0 (G k t0)); rw [upd2_id, ← HGE.out]; exact HTK.out, HLK.out⟩
          case round =>
            obtain ⟨q, p, hp, hpt, rfl, htab, hb⟩ := hrel
            have HTP := Lib.hid htab
            have HLP := Lib.hid hb
            have HP := Lib.hid hp
            have hp0 : (0 : Int) ≤ (p : Int) := by omega
            have hkp : k < p := by omega
            have hbl := htab.lt
            clear htab hb hp
            by_cases hlt : p < t0
            · have q3 : (p : Int) < (t0 : Int) := by omega
              have p8 : (p : Int) < 8 := by omega
              have p7 : p < 8 := by omega
              obtain ⟨c, hc⟩ : ∃ c, tabPt d.cost G k t0 q = c := ⟨_, rfl⟩
              have HC := Lib.hid hc
              obtain ⟨x, hx⟩ : ∃ x, (G k p).1 = x := ⟨_, rfl⟩
              obtain ⟨y, hy⟩ : ∃ y, (G p t0).1 = y := ⟨_, rfl⟩
              obtain ⟨c1, c2, z1, z2⟩ := HTP.out.cell k7 t7
              obtain ⟨e1, _, _, _⟩ := HTP.out.cell k7 p7
              obtain ⟨f1, _, _, _⟩ := HTP.out.cell p7 t7
              rw [upd2_same, hc] at c1 c2
              rw [upd2_other (by omega), hx] at e1
              rw [upd2_other (by omega), hy] at f1
              have hxb := HGB.out k p (by omega)
              have hyb := HGB.out p t0 (by omega)
              rw [hx] at hxb
              rw [hy] at hyb
              have HX := Lib.hid hx
              have HY := Lib.hid hy
              obtain ⟨v, hv⟩ : ∃ v, d.cost p + max x y = v := ⟨_, rfl⟩
              have HV := Lib.hid hv
              have HPA := Lib.hid (fun (w' : World) (hb' : Below wr.heap.size wr w') => (hv ▸ partD_any Ap Ao cp co d k p t0 x y w' (by have := HNP.out; omega) (HT.out.pts.mono (bTrans (bTrans HB0.out HLP.out) hb')) (HCO.out p (by have := HNP.out; omega)) (by omega) (by omega) : Calls Tryd.prog 98 #[.agg #[.slice Ap d.np cp, .slice Ao d.no co], .int .i64 (k : Int), .int .i64 (p : Int), .int .i64 (t0 : Int), .int .i64 x, .int .i64 y] w' fun e w'' => e = .returned (.int .i64 v) ∧ Below w'.heap.size w' w''))
              clear hc hx hy hv hxb hyb
              go_wp2_with fail
              refine wp_region_quiet_below (by kernel_rfl) (by kernel_rfl) ?_
              repeat (go_big_quiet_step ((fail)))
              refine BigFrame.wpQuiet_want rfl (fun K hK => ?_)
              refine quiet_nil (.tmp 58) rfl (.agg #[.slice Ap d.np cp, .slice Ao d.no co]) #[] rfl (hK _ ?_)
              clear hK K
              simp only [Act.put, List.setIfInBounds_toArray, List.set_cons_succ, List.set_cons_zero]
              repeat (go_big_quiet_step ((fail)))
              refine BigFrame.wpQuiet_want rfl (fun K hK => ?_)
              refine quiet_part (.tmp 60) (.tmp 43) (.tmp 44) (.tmp 45) (.tmp 51) (.tmp 57) _ rfl (.agg #[.slice Ap d.np cp, .slice Ao d.no co]) rfl (.int .i64 v) (fun w' hw' => ?_) (hK _ ?_)
              · obtain ⟨n, rfl⟩ := hw'
                exact Calls.regrown_of (HPA.out _ (below_regrown _ _ _))
              clear hK K
              simp only [Act.put, List.setIfInBounds_toArray, List.set_cons_succ, List.set_cons_zero]
              repeat (go_big_quiet_step ((fail)))
              refine wpQuiet_nil ?_
              intro w5 hw9
              have hb := below_of_regrown hw9
              clear hw9
              have HT5 := Lib.hid (show TabC w5 (w.heap.size + 1) (upd2 G k t0 c) from by have h := HTP.out.mono hb; rw [HC.out] at h; exact h)
              have HL5 := Lib.hid (bTrans HLP.out hb)
              have hbl5 := HT5.out.lt
              obtain ⟨a1, a2, a3, a4⟩ := HT5.out.cell k7 t7
              rw [upd2_same] at a1 a2
              clear hb c1 c2 z1 z2 e1 f1 hbl HPA
              by_cases h0 : c.2 = 0
              · have HTE := Lib.hid (tabPt_hit (k := q) HC.out HP.out (by rw [HX.out, HY.out]; exact HV.out) (.inl h0) : tabPt d.cost G k t0 (q + 1) = (v, (p : Int)))
                have g1 : (c.2 == 0) = true := by simp; exact h0
                clear h0
                go_wp2_with fail
                go_roundw
                case rel =>
                  refine ⟨q + 1, p + 1, by rw [HP.out]; omega, by omega, by go_num, ?_, ?_⟩
                  · have h := HT5.out.set k7 t7 v (p : Int)
                    rw [upd2_twice] at h
                    rw [HTE.out]
                    exact h
                  · exact Below.setCell (p := ⟨w.heap.size + 1, _, none⟩) (Below.setCell (p := ⟨w.heap.size + 1, _, none⟩) HL5.out (by simp) _) (by simp) _
                case measure => simp [intOf]; omega
              · by_cases h1 : v < c.1
                · have HTE := Lib.hid (tabPt_hit (k := q) HC.out HP.out (by rw [HX.out, HY.out]; exact HV.out) (.inr h1) : tabPt d.cost G k t0 (q + 1) = (v, (p : Int)))
                  have g1 : (c.2 == 0) = false := by simp; exact h0
                  have g2 : decide (v < c.1) = true := by simp; exact h1
                  clear h0
                  go_wp2_with fail
                  go_roundw
                  case rel =>
                    refine ⟨q + 1, p + 1, by rw [HP.out]; omega, by omega, by go_num, ?_, ?_⟩
                    · have h := HT5.out.set k7 t7 v (p : Int)
                      rw [upd2_twice] at h
                      rw [HTE.out]
                      exact h
                    · exact Below.setCell (p := ⟨w.heap.size + 1, _, none⟩) (Below.setCell (p := ⟨w.heap.size + 1, _, none⟩) HL5.out (by simp) _) (by simp) _
                  case measure => simp [intOf]; omega
                · have HTE := Lib.hid (tabPt_miss (k := q) HC.out HP.out (by rw [HX.out, HY.out]; exact HV.out) (fun h => h.elim h0 h1) : tabPt d.cost G k t0 (q + 1) = c)
                  have g1 : (c.2 == 0) = false := by simp; exact h0
                  have g2 : decide (v < c.1) = false := by simp; omega
                  clear h0
                  go_wp2_with fail
                  go_roundw
                  case rel => exact ⟨q + 1, p + 1, by rw [HP.out]; omega, by omega, by go_num, by rw [HTE.out]; exact HT5.out, HL5.out⟩
                  case measure => simp [intOf]; omega
            · have hpe : p = t0 := by omega
              have HQM := Lib.hid (show q = m - 1 by have := HP.out; have := HT0.out; omega)
              have q3 : ¬ (p : Int) < (t0 : Int) := by omega
              have q4 : decide ((p : Int) < (t0 : Int)) = false := by simp; omega
              have q5 : decide (p < t0) = false := by simp; omega
              clear hpe
              go_wp2_with fail
              go_roundw
              case rel => exact ⟨k + 1, by have := HT0.out; omega, by rw [← HP0.out], by rw [tabFrom_succ HGE.out HT0.out HQM.out]; exact HTP.out, HLP.out⟩
              case measure =>
                have hq := HP0.out
                simp [intOf]
                omega
        · have q2 : ¬ (t0 : Int) ≤ (d.no : Int) := by omega
          have q4 : decide ((t0 : Int) ≤ (d.no : Int)) = false := by simp; omega
          have q5 : decide (t0 ≤ d.no) = false := by simp; omega
          have HKE := Lib.hid (show k = d.no + 1 - m by omega)
          clear ht0
          go_wp2_with fail
          go_roundw
          case rel => exact ⟨j + 1, m + 1, by have := HM.out; omega, by have := HM.out; omega, by go_num, by rw [tabMany_succ HM.out HKE.out]; exact HTK.out, HLK.out⟩
          case measure => simp [intOf]; omega
    · have q1 : ¬ (m : Int) ≤ (d.no : Int) := by omega
      have q4 : decide ((m : Int) ≤ (d.no : Int)) = false := by simp; omega
      have q5 : decide (m ≤ d.no) = false := by simp; omega
      have HJE := Lib.hid (show j = d.no - 1 by have := HM.out; have := HJ.out; omega)
      go_wp2_with fail
      go_ret
      exact ⟨⟨w.heap.size + 1, rfl, by unfold tabAll; rw [← HJE.out]; exact HTAB.out⟩, bTrans HB0.out HL.out⟩
end Go.Proofs.YthnojgdckkdcgaaDoor

namespace Go.Proofs.YthnojgdckkdcgaaDoor
open Go.RowKit Go.Sort
set_option maxHeartbeats 4000000 in
set_option maxRecDepth 100000 in
theorem badO_any (n : Int) (w : World) (h : 1 ≤ n ∧ n ≤ 9) :
    Calls Tryd.prog 51 #[.int .i64 n] w fun e w' => e = .returned (.bool (false)) ∧ Below w.heap.size w w' := by
  have HD0 := Lib.hid (Below.refl w.heap.size w)
  have HH := Lib.hid h
  clear h
  go_enter Tryd.func51, Tryd.ntmps51
  go_wp2_with fail
  refine (withinD_b _ _ _ true _ (inR_t HH.out)).mono ?_
  rintro e w1 ⟨rfl, hb⟩
  have hB1 : Below w.heap.size w w1 := bTrans (Below.refl _ _) hb
  have HD1 := Lib.hid (bTrans HD0.out hB1)
  clear hb hB1 HD0
  go_wp2_with fail
  go_ret
  exact ⟨rfl, HD1.out⟩
set_option maxHeartbeats 4000000 in
set_option maxRecDepth 100000 in
theorem badP_any (x : Pnt) (w : World) (h : 0 ≤ x.lo ∧ x.lo ≤ x.hi ∧ x.hi ≤ 99 ∧ 0 ≤ x.cost ∧ x.cost ≤ 20) :
    Calls Tryd.prog 52 #[.agg #[.int .i64 x.lo, .int .i64 x.hi, .int .i64 x.cost]] w fun e w' => e = .returned (.bool (false)) ∧ Below w.heap.size w w' := by
  have HD0 := Lib.hid (Below.refl w.heap.size w)
  have HH := Lib.hid h
  clear h
  go_enter Tryd.func52, Tryd.ntmps52
  go_wp2_with fail
  refine (withinD_b _ _ _ true _ (inR_t (by have := HH.out; omega))).mono ?_
  rintro e w1 ⟨rfl, hb⟩
  have hB1 : Below w.heap.size w w1 := bTrans (bAlloc (Below.refl _ _) (.cells #[.int .i64 x.lo, .int .i64 x.hi, .int .i64 x.cost] 35)) hb
  have HD1 := Lib.hid (bTrans HD0.out hB1)
  have X1 := Lib.hid (show TBox w1 w.heap.size 35 #[.int .i64 x.lo, .int .i64 x.hi, .int .i64 x.cost] from by have := ((TBox.new w #[.int .i64 x.lo, .int .i64 x.hi, .int .i64 x.cost] 35).mono (Below.refl _ _)).mono hb; simpa using this)
  clear hb hB1 HD0
  obtain ⟨X_0, X_1, X_2, X_l⟩ := X1.out.c3
  go_wp2_with fail
  refine (withinD_b _ _ _ true _ (inR_t (by have := HH.out; omega))).mono ?_
  rintro e w2 ⟨rfl, hb⟩
  have hB2 : Below w1.heap.size w1 w2 := bTrans (Below.refl _ _) hb
  have HD2 := Lib.hid (bTrans HD1.out hB2)
  have X2 := Lib.hid (X1.out.mono hB2)
  clear hb hB2 HD1 X1 X_0 X_1 X_2 X_l
  obtain ⟨X_0, X_1, X_2, X_l⟩ := X2.out.c3
  go_wp2_with fail
  refine (withinD_b _ _ _ true _ (inR_t (by have := HH.out; omega))).mono ?_
  rintro e w3 ⟨rfl, hb⟩
  have hB3 : Below w2.heap.size w2 w3 := bTrans (Below.refl _ _) hb
  have HD3 := Lib.hid (bTrans HD2.out hB3)
  have X3 := Lib.hid (X2.out.mono hB3)
  clear hb hB3 HD2 X2 X_0 X_1 X_2 X_l
  obtain ⟨X_0, X_1, X_2, X_l⟩ := X3.out.c3
  go_wp2_with fail
  go_ret
  exact ⟨rfl, HD3.out⟩
set_option maxHeartbeats 4000000 in
set_option maxRecDepth 100000 in
theorem checkD_any (Ap Ao : Option Addr) (cp co : Nat) (d : Dk) (w : World) (ok : d.Ok) (hT : DAt w Ap Ao d) :
    Calls Tryd.prog 39 #[.agg #[.slice Ap d.np cp, .slice Ao d.no co]] w fun e w' => e = .returned (.int .i64 (0)) ∧ Below w.heap.size w w' := by
  have HD0 := Lib.hid (Below.refl w.heap.size w)
  have HOK := Lib.hid ok
  have HT0 := Lib.hid hT
  clear ok hT
  go_enter Tryd.func39, Tryd.ntmps39
  have h7 : ¬ (d.no : Int) > 7 := by have := HOK.out.no; omega
  have h7b : decide ((d.no : Int) > 7) = false := by simp; have := HOK.out.no; omega
  have hw : IntKind.i64.wrap ((d.no : Int) + 1) = (d.np : Int) := by rw [HOK.out.np]; have := HOK.out.no; exact IntWalk.i64_in _ (by omega)
  have HC1 := Lib.hid (fun (w' : World) (hb : Below (w.alloc (.cells #[.slice Ap d.np cp, .slice Ao d.no co] 25)).heap.size (w.alloc (.cells #[.slice Ap d.np cp, .slice Ao d.no co] 25)) w') => (by have := contains_int Ao d.no co 51 #[] d.odd (fun _ => false) w' (by have := HOK.out.no; omega) ((HT0.out.mono (bAlloc (Below.refl _ _) (.cells #[.slice Ap d.np cp, .slice Ao d.no co] 25))).mono hb).odds (enters_of Tryd.func51 (by kernel_rfl)) (fun i hi w2 _ => badO_any (d.odd i) w2 (HOK.out.odd i hi)); rw [anyB_false.2 (fun _ _ => rfl)] at this; exact this : Calls Tryd.prog 53 #[.slice Ao d.no co, .func (.func 51) #[] #[]] w' fun e w'' => e = .returned (.bool false) ∧ Below w'.heap.size w' w''))
  have HC2 := Lib.hid (fun (w' : World) (hb : Below (w.alloc (.cells #[.slice Ap d.np cp, .slice Ao d.no co] 25)).heap.size (w.alloc (.cells #[.slice Ap d.np cp, .slice Ao d.no co] 25)) w') => (by have := contains_pnt Ap d.np cp 52 #[] d.pt (fun _ => false) w' (by have := HOK.out.no; have := HOK.out.np; omega) ((HT0.out.mono (bAlloc (Below.refl _ _) (.cells #[.slice Ap d.np cp, .slice Ao d.no co] 25))).mono hb).pts (enters_of Tryd.func52 (by kernel_rfl)) (fun i hi w2 _ => badP_any (d.pt i) w2 (HOK.out.pt i hi)); rw [anyB_false.2 (fun _ _ => rfl)] at this; exact this : Calls Tryd.prog 54 #[.slice Ap d.np cp, .func (.func 52) #[] #[]] w' fun e w'' => e = .returned (.bool false) ∧ Below w'.heap.size w' w''))
  go_wp2_with fail
  refine (HC1.out _ (Below.refl _ _)).mono ?_
  rintro e w1 ⟨rfl, hb⟩
  have hcb := hb
  have hB1 : Below w.heap.size w w1 := bTrans (bAlloc (Below.refl _ _) (.cells #[.slice Ap d.np cp, .slice Ao d.no co] 25)) hb
  have HD1 := Lib.hid (bTrans HD0.out hB1)
  have HT1 := Lib.hid (HT0.out.mono hB1)
  have HRC1 := Lib.hid ((show Upto (w.alloc (.cells #[.slice Ap d.np cp, .slice Ao d.no co] 25)) w1 from hcb))
  have D1 := Lib.hid (show TBox w1 w.heap.size 25 #[.slice Ap d.np cp, .slice Ao d.no co] from by have := ((TBox.new w #[.slice Ap d.np cp, .slice Ao d.no co] 25).mono (Below.refl _ _)).mono hb; simpa using this)
  clear hb hB1 HD0 HT0
  obtain ⟨D_0, D_1, D_l⟩ := D1.out.c2
  clear hcb
  go_wp2_with fail
  refine (HC2.out _ HRC1.out).mono ?_
  rintro e w2 ⟨rfl, hb⟩
  have hB2 : Below w1.heap.size w1 w2 := bTrans (Below.refl _ _) hb
  have HD2 := Lib.hid (bTrans HD1.out hB2)
  have HT2 := Lib.hid (HT1.out.mono hB2)
  have HRC2 := Lib.hid (HRC1.out.mono hB2)
  have D2 := Lib.hid (D1.out.mono hB2)
  clear hb hB2 HD1 HT1 HRC1 D1 D_0 D_1 D_l
  obtain ⟨D_0, D_1, D_l⟩ := D2.out.c2
  go_wp2_with fail
  go_ret
  exact ⟨rfl, HD2.out⟩
set_option maxHeartbeats 4000000 in
set_option maxRecDepth 100000 in
theorem askD_any (Ap Ao : Option Addr) (cp co : Nat) (d : Dk) (w : World) (ok : d.Ok) (hT : DAt w Ap Ao d) :
    Calls Tryd.prog 24 #[.agg #[.slice Ap d.np cp, .slice Ao d.no co], .bool true] w fun e w' => e = .returned (.int .i64 (0)) ∧ Below w.heap.size w w' := by
  have HD0 := Lib.hid (Below.refl w.heap.size w)
  have HOK := Lib.hid ok
  have HT0 := Lib.hid hT
  clear ok hT
  go_enter Tryd.func24, Tryd.ntmps24
  go_wp2_with fail
  refine (checkD_any Ap Ao cp co d _ HOK.out (HT0.out.mono (bAlloc (Below.refl _ _) (.cells #[.slice Ap d.np cp, .slice Ao d.no co] 25)))).mono ?_
  rintro e w1 ⟨rfl, hb⟩
  have hB1 : Below w.heap.size w w1 := bTrans (bAlloc (Below.refl _ _) (.cells #[.slice Ap d.np cp, .slice Ao d.no co] 25)) hb
  have HD1 := Lib.hid (bTrans HD0.out hB1)
  have HT1 := Lib.hid (HT0.out.mono hB1)
  have D1 := Lib.hid (show TBox w1 w.heap.size 25 #[.slice Ap d.np cp, .slice Ao d.no co] from by have := ((TBox.new w #[.slice Ap d.np cp, .slice Ao d.no co] 25).mono (Below.refl _ _)).mono hb; simpa using this)
  clear hb hB1 HD0 HT0
  obtain ⟨D_0, D_1, D_l⟩ := D1.out.c2
  go_wp2_with fail
  go_ret
  exact ⟨rfl, HD1.out⟩
set_option maxHeartbeats 4000000 in
set_option maxRecDepth 100000 in
theorem areD_any (Ap Ao : Option Addr) (cp co : Nat) (d : Dk) (f t : Nat) (w : World) (hft : f < t) (ht : t ≤ d.no) :
    Calls Tryd.prog 25 #[.agg #[.slice Ap d.np cp, .slice Ao d.no co], .int .i64 (f : Int), .int .i64 (t : Int)] w fun e w' => e = .returned (.bool (true)) ∧ Below w.heap.size w w' := by
  have h1 : (0 : Int) ≤ (f : Int) := by omega
  have h2 : (f : Int) < (t : Int) := by omega
  have h3 : (t : Int) ≤ (d.no : Int) := by omega
  have h4 : decide ((f : Int) ≥ 0) = true := by simp
  clear hft ht
  have HD0 := Lib.hid (Below.refl w.heap.size w)
  go_enter Tryd.func25, Tryd.ntmps25
  go_wp2_with fail
  go_ret
  exact ⟨rfl, (bTrans HD0.out (bAlloc (Below.refl _ _) (.cells #[.slice Ap d.np cp, .slice Ao d.no co] 25)))⟩
set_option maxHeartbeats 4000000 in
set_option maxRecDepth 100000 in
theorem isSD_any (Ap Ao : Option Addr) (cp co : Nat) (d : Dk) (n : Nat) (w : World) (hn : n < d.no) (h7 : d.no ≤ 7) :
    Calls Tryd.prog 29 #[.agg #[.slice Ap d.np cp, .slice Ao d.no co], .int .i64 (n : Int)] w fun e w' => e = .returned (.bool (true)) ∧ Below w.heap.size w w' := by
  have hw : IntKind.i64.wrap ((d.no : Int) - 1) = (d.no : Int) - 1 := IntWalk.i64_in _ (by omega)
  have HH := Lib.hid (inR_t (by omega) : inR (n : Int) 0 ((d.no : Int) - 1) = true)
  clear hn h7
  have HD0 := Lib.hid (Below.refl w.heap.size w)
  go_enter Tryd.func29, Tryd.ntmps29
  go_wp2_with fail
  refine (withinD_b _ _ _ _ _ HH.out).mono ?_
  rintro e w1 ⟨rfl, hb⟩
  have hB1 : Below w.heap.size w w1 := bTrans (bAlloc (Below.refl _ _) (.cells #[.slice Ap d.np cp, .slice Ao d.no co] 25)) hb
  have HD1 := Lib.hid (bTrans HD0.out hB1)
  have D1 := Lib.hid (show TBox w1 w.heap.size 25 #[.slice Ap d.np cp, .slice Ao d.no co] from by have := ((TBox.new w #[.slice Ap d.np cp, .slice Ao d.no co] 25).mono (Below.refl _ _)).mono hb; simpa using this)
  clear hb hB1 HD0
  obtain ⟨D_0, D_1, D_l⟩ := D1.out.c2
  go_wp2_with fail
  go_ret
  exact ⟨rfl, HD1.out⟩
set_option maxHeartbeats 4000000 in
set_option maxRecDepth 100000 in
theorem worstD_any (Ap Ao : Option Addr) (cp co : Nat) (d : Dk) (f t : Nat) (w : World) (ok : d.Ok) (hT : DAt w Ap Ao d) (hft : f < t) (ht : t ≤ d.no) :
    Calls Tryd.prog 11 #[.agg #[.slice Ap d.np cp, .slice Ao d.no co], .int .i64 (f : Int), .int .i64 (t : Int)] w fun e w' => e = .returned (.tuple #[.int .i64 (tabAll d.cost d.no f t).1, .int .i64 0]) ∧ Below w.heap.size w w' := by
  have HF8 := Lib.hid (show f < 8 by have := ok.no; omega)
  have HT8 := Lib.hid (show t < 8 by have := ok.no; omega)
  have k0 : (0 : Int) ≤ (f : Int) := by omega
  have k1 : (0 : Int) ≤ (t : Int) := by omega
  have k8 : (f : Int) < 8 := by have := ok.no; omega
  have t8 : (t : Int) < 8 := by have := ok.no; omega
  have HFT := Lib.hid hft
  have HTN := Lib.hid ht
  clear hft ht
  have HD0 := Lib.hid (Below.refl w.heap.size w)
  have HOK := Lib.hid ok
  have HT0 := Lib.hid hT
  clear ok hT
  go_enter Tryd.func11, Tryd.ntmps11
  have HC1 := Lib.hid (fun (w' : World) (hb : Below (w.alloc (.cells #[.slice Ap d.np cp, .slice Ao d.no co] 25)).heap.size (w.alloc (.cells #[.slice Ap d.np cp, .slice Ao d.no co] 25)) w') => (areD_any Ap Ao cp co d f t w' HFT.out HTN.out : Calls Tryd.prog 25 #[.agg #[.slice Ap d.np cp, .slice Ao d.no co], .int .i64 (f : Int), .int .i64 (t : Int)] w' fun e w'' => e = .returned (.bool true) ∧ Below w'.heap.size w' w''))
  have HC2 := Lib.hid (fun (w' : World) (hb : Below (w.alloc (.cells #[.slice Ap d.np cp, .slice Ao d.no co] 25)).heap.size (w.alloc (.cells #[.slice Ap d.np cp, .slice Ao d.no co] 25)) w') => (askD_any Ap Ao cp co d w' HOK.out ((HT0.out.mono (bAlloc (Below.refl _ _) (.cells #[.slice Ap d.np cp, .slice Ao d.no co] 25))).mono hb) : Calls Tryd.prog 24 #[.agg #[.slice Ap d.np cp, .slice Ao d.no co], .bool true] w' fun e w'' => e = .returned (.int .i64 0) ∧ Below w'.heap.size w' w''))
  go_wp2_with fail
  refine wp_region_quiet_below (by kernel_rfl) (by kernel_rfl) ?_
  repeat (go_big_quiet_step (((first | (go_at_call 25; with_reducible exact Calls.regrown_of (HC1.out _ (below_regrown _ _ _))) | (go_at_call 24; with_reducible exact Calls.regrown_of (HC2.out _ (below_regrown _ _ _)))))))
  refine wpQuiet_nil ?_
  intro w1 hw9
  have hb := below_of_regrown hw9
  clear hw9
  clear HC1 HC2
  have hB1 : Below w.heap.size w w1 := bTrans (bAlloc (Below.refl _ _) (.cells #[.slice Ap d.np cp, .slice Ao d.no co] 25)) hb
  have HD1 := Lib.hid (bTrans HD0.out hB1)
  have HT1 := Lib.hid (HT0.out.mono hB1)
  have D1 := Lib.hid (show TBox w1 w.heap.size 25 #[.slice Ap d.np cp, .slice Ao d.no co] from by have := ((TBox.new w #[.slice Ap d.np cp, .slice Ao d.no co] 25).mono (Below.refl _ _)).mono hb; simpa using this)
  clear hb hB1 HD0 HT0
  obtain ⟨D_0, D_1, D_l⟩ := D1.out.c2
  go_wp2_with fail
  refine (reckon_any Ap Ao cp co d _ HOK.out HT1.out).mono ?_
  rintro e w2 ⟨⟨b, rfl, htab⟩, hb⟩
  have hB2 : Below w1.heap.size w1 w2 := bTrans (Below.refl _ _) hb
  have HD2 := Lib.hid (bTrans HD1.out hB2)
  have HT2 := Lib.hid (HT1.out.mono hB2)
  have HTAB2 := Lib.hid (htab)
  have D2 := Lib.hid (D1.out.mono hB2)
  clear hb hB2 HD1 HT1 D1 D_0 D_1 D_l
  obtain ⟨D_0, D_1, D_l⟩ := D2.out.c2
  clear htab
  obtain ⟨c1, c2, z1, z2⟩ := HTAB2.out.cell HF8.out HT8.out
  have hbl := HTAB2.out.lt
  go_wp2_with fail
  go_ret2
  exact ⟨rfl, HD2.out⟩
set_option maxHeartbeats 4000000 in
set_option maxRecDepth 100000 in
theorem nextD_any (Ap Ao : Option Addr) (cp co : Nat) (d : Dk) (f t : Nat) (w : World) (ok : d.Ok) (hT : DAt w Ap Ao d) (hft : f + 1 < t) (ht : t ≤ d.no) :
    Calls Tryd.prog 17 #[.agg #[.slice Ap d.np cp, .slice Ao d.no co], .int .i64 (f : Int), .int .i64 (t : Int)] w fun e w' => e = .returned (.tuple #[.int .i64 (tabAll d.cost d.no f t).2, .int .i64 0]) ∧ Below w.heap.size w w' := by
  have HF8 := Lib.hid (show f < 8 by have := ok.no; omega)
  have HT8 := Lib.hid (show t < 8 by have := ok.no; omega)
  have k0 : (0 : Int) ≤ (f : Int) := by omega
  have k1 : (0 : Int) ≤ (t : Int) := by omega
  have k8 : (f : Int) < 8 := by have := ok.no; omega
  have t8 : (t : Int) < 8 := by have := ok.no; omega
  have HFT := Lib.hid hft
  have HTN := Lib.hid ht
  clear hft ht
  have hw : IntKind.i64.wrap ((f : Int) + 1) = (f : Int) + 1 := IntWalk.i64_in _ (by omega)
  have hne : ((t : Int) == (f : Int) + 1) = false := by simp; have := HFT.out; omega
  have hne2 : ¬ (t : Int) = (f : Int) + 1 := by have := HFT.out; omega
  have HD0 := Lib.hid (Below.refl w.heap.size w)
  have HOK := Lib.hid ok
  have HT0 := Lib.hid hT
  clear ok hT
  go_enter Tryd.func17, Tryd.ntmps17
  have HC1 := Lib.hid (fun (w' : World) (hb : Below (w.alloc (.cells #[.slice Ap d.np cp, .slice Ao d.no co] 25)).heap.size (w.alloc (.cells #[.slice Ap d.np cp, .slice Ao d.no co] 25)) w') => (areD_any Ap Ao cp co d f t w' (by have := HFT.out; omega) HTN.out : Calls Tryd.prog 25 #[.agg #[.slice Ap d.np cp, .slice Ao d.no co], .int .i64 (f : Int), .int .i64 (t : Int)] w' fun e w'' => e = .returned (.bool true) ∧ Below w'.heap.size w' w''))
  have HC2 := Lib.hid (fun (w' : World) (hb : Below (w.alloc (.cells #[.slice Ap d.np cp, .slice Ao d.no co] 25)).heap.size (w.alloc (.cells #[.slice Ap d.np cp, .slice Ao d.no co] 25)) w') => (askD_any Ap Ao cp co d w' HOK.out ((HT0.out.mono (bAlloc (Below.refl _ _) (.cells #[.slice Ap d.np cp, .slice Ao d.no co] 25))).mono hb) : Calls Tryd.prog 24 #[.agg #[.slice Ap d.np cp, .slice Ao d.no co], .bool true] w' fun e w'' => e = .returned (.int .i64 0) ∧ Below w'.heap.size w' w''))
  go_wp2_with fail
  refine wp_region_quiet_below (by kernel_rfl) (by kernel_rfl) ?_
  repeat (go_big_quiet_step (((first | (go_at_call 25; with_reducible exact Calls.regrown_of (HC1.out _ (below_regrown _ _ _))) | (go_at_call 24; with_reducible exact Calls.regrown_of (HC2.out _ (below_regrown _ _ _)))))))
  refine wpQuiet_nil ?_
  intro w1 hw9
  have hb := below_of_regrown hw9
  clear hw9
  clear HC1 HC2
  have hB1 : Below w.heap.size w w1 := bTrans (bAlloc (Below.refl _ _) (.cells #[.slice Ap d.np cp, .slice Ao d.no co] 25)) hb
  have HD1 := Lib.hid (bTrans HD0.out hB1)
  have HT1 := Lib.hid (HT0.out.mono hB1)
  have D1 := Lib.hid (show TBox w1 w.heap.size 25 #[.slice Ap d.np cp, .slice Ao d.no co] from by have := ((TBox.new w #[.slice Ap d.np cp, .slice Ao d.no co] 25).mono (Below.refl _ _)).mono hb; simpa using this)
  clear hb hB1 HD0 HT0
  obtain ⟨D_0, D_1, D_l⟩ := D1.out.c2
  go_wp2_with fail
  refine (reckon_any Ap Ao cp co d _ HOK.out HT1.out).mono ?_
  rintro e w2 ⟨⟨b, rfl, htab⟩, hb⟩
  have hB2 : Below w1.heap.size w1 w2 := bTrans (Below.refl _ _) hb
  have HD2 := Lib.hid (bTrans HD1.out hB2)
  have HT2 := Lib.hid (HT1.out.mono hB2)
  have HTAB2 := Lib.hid (htab)
  have D2 := Lib.hid (D1.out.mono hB2)
  clear hb hB2 HD1 HT1 D1 D_0 D_1 D_l
  obtain ⟨D_0, D_1, D_l⟩ := D2.out.c2
  clear htab
  obtain ⟨c1, c2, z1, z2⟩ := HTAB2.out.cell HF8.out HT8.out
  have hbl := HTAB2.out.lt
  go_wp2_with fail
  go_ret2
  exact ⟨rfl, HD2.out⟩
end Go.Proofs.YthnojgdckkdcgaaDoor

namespace Go.Proofs.YthnojgdckkdcgaaDoor
open Go.RowKit Go.Sort
def pathN (F : Tab) (s : Nat) : Nat → Nat → Nat → Nat
  | 0, _, _ => 0
  | n + 1, f, t => if f + 1 < t then 1 + (if s < (F f t).2.toNat then pathN F s n f (F f t).2.toNat else pathN F s n (F f t).2.toNat t) else 0
theorem pathN_end {F : Tab} {s f t : Nat} (h : ¬ f + 1 < t) : ∀ n, pathN F s n f t = 0
  | 0 => rfl
  | n + 1 => if_neg h
theorem pathN_lo {F : Tab} {s f t p n : Nat} (h : f + 1 < t) (hp : (F f t).2 = (p : Int)) (hs : s < p) : pathN F s (n + 1) f t = 1 + pathN F s n f p := by
  show (if f + 1 < t then 1 + (if s < (F f t).2.toNat then pathN F s n f (F f t).2.toNat else pathN F s n (F f t).2.toNat t) else 0) = _
  rw [if_pos h, hp, Int.toNat_natCast, if_pos hs]
theorem pathN_hi {F : Tab} {s f t p n : Nat} (h : f + 1 < t) (hp : (F f t).2 = (p : Int)) (hs : ¬ s < p) : pathN F s (n + 1) f t = 1 + pathN F s n p t := by
  show (if f + 1 < t then 1 + (if s < (F f t).2.toNat then pathN F s n f (F f t).2.toNat else pathN F s n (F f t).2.toNat t) else 0) = _
  rw [if_pos h, hp, Int.toNat_natCast, if_neg hs]
/-- each entry says a point between its ends -/
def TabP (F : Tab) (n : Nat) : Prop := ∀ f t, f + 1 < t → t ≤ n → ∃ p : Nat, f < p ∧ p < t ∧ (F f t).2 = (p : Int)
set_option maxHeartbeats 4000000 in
set_option maxRecDepth 100000 in
theorem pathD_any (Ap Ao : Option Addr) (cp co : Nat) (d : Dk) (s : Nat) (w : World) (ok : d.Ok) (hT : DAt w Ap Ao d) (hs : s < d.no) (hP : TabP (tabAll d.cost d.no) d.no) :
    Calls Tryd.prog 13 #[.agg #[.slice Ap d.np cp, .slice Ao d.no co], .int .i64 (s : Int)] w fun e w' => (∃ A c, e = .returned (.tuple #[.slice A (pathN (tabAll d.cost d.no) s d.no 0 d.no) c, .int .i64 0])) ∧ Below w.heap.size w w' := by
  obtain ⟨i0, hi, iz0, iz1, iz2⟩ := info_parts infoInt
  obtain ⟨tot, htot⟩ : ∃ y, pathN (tabAll d.cost d.no) s d.no 0 d.no = y := ⟨_, rfl⟩
  have HTOT := Lib.hid htot
  rw [htot]
  clear htot
  have HD0 := Lib.hid (Below.refl w.heap.size w)
  have HOK := Lib.hid ok
  have HT0 := Lib.hid hT
  have HS := Lib.hid hs
  have HP := Lib.hid hP
  clear ok hT hs hP
  go_enter Tryd.func13, Tryd.ntmps13
  have HC1 := Lib.hid (fun (w' : World) (hb : Below (w.alloc (.cells #[.slice Ap d.np cp, .slice Ao d.no co] 25)).heap.size (w.alloc (.cells #[.slice Ap d.np cp, .slice Ao d.no co] 25)) w') => (isSD_any Ap Ao cp co d s w' HS.out HOK.out.no : Calls Tryd.prog 29 #[.agg #[.slice Ap d.np cp, .slice Ao d.no co], .int .i64 (s : Int)] w' fun e w'' => e = .returned (.bool true) ∧ Below w'.heap.size w' w''))
  have HC2 := Lib.hid (fun (w' : World) (hb : Below (w.alloc (.cells #[.slice Ap d.np cp, .slice Ao d.no co] 25)).heap.size (w.alloc (.cells #[.slice Ap d.np cp, .slice Ao d.no co] 25)) w') => (askD_any Ap Ao cp co d w' HOK.out ((HT0.out.mono (bAlloc (Below.refl _ _) (.cells #[.slice Ap d.np cp, .slice Ao d.no co] 25))).mono hb) : Calls Tryd.prog 24 #[.agg #[.slice Ap d.np cp, .slice Ao d.no co], .bool true] w' fun e w'' => e = .returned (.int .i64 0) ∧ Below w'.heap.size w' w''))
  go_wp2_with fail
  refine wp_region_quiet_below (by kernel_rfl) (by kernel_rfl) ?_
  repeat (go_big_quiet_step (((first | (go_at_call 29; with_reducible exact Calls.regrown_of (HC1.out _ (below_regrown _ _ _))) | (go_at_call 24; with_reducible exact Calls.regrown_of (HC2.out _ (below_regrown _ _ _)))))))
  refine wpQuiet_nil ?_
  intro w1 hw9
  have hb := below_of_regrown hw9
  clear hw9
  clear HC1 HC2
  have hB1 : Below w.heap.size w w1 := bTrans (bAlloc (Below.refl _ _) (.cells #[.slice Ap d.np cp, .slice Ao d.no co] 25)) hb
  have HD1 := Lib.hid (bTrans HD0.out hB1)
  have HT1 := Lib.hid (HT0.out.mono hB1)
  have D1 := Lib.hid (show TBox w1 w.heap.size 25 #[.slice Ap d.np cp, .slice Ao d.no co] from by have := ((TBox.new w #[.slice Ap d.np cp, .slice Ao d.no co] 25).mono (Below.refl _ _)).mono hb; simpa using this)
  clear hb hB1 HD0 HT0
  obtain ⟨D_0, D_1, D_l⟩ := D1.out.c2
  go_wp2_with fail
  refine (reckon_any Ap Ao cp co d _ HOK.out HT1.out).mono ?_
  rintro e w2 ⟨⟨b, rfl, htab⟩, hb⟩
  have hB2 : Below w1.heap.size w1 w2 := bTrans (Below.refl _ _) hb
  have HD2 := Lib.hid (bTrans HD1.out hB2)
  have HT2 := Lib.hid (HT1.out.mono hB2)
  have HTAB2 := Lib.hid (htab)
  have D2 := Lib.hid (D1.out.mono hB2)
  clear hb hB2 HD1 HT1 D1 D_0 D_1 D_l
  obtain ⟨D_0, D_1, D_l⟩ := D2.out.c2
  clear htab
  go_wp2_with fail
  refine wp_region_quiet_below (by kernel_rfl) (by kernel_rfl) ?_
  repeat (go_big_quiet_step ((fail)))
  refine wpQuiet_nil ?_
  intro w3 hw9
  have hb := below_of_regrown hw9
  clear hw9
  have hB3 : Below w2.heap.size w2 w3 := bTrans (Below.refl _ _) hb
  have HD3 := Lib.hid (bTrans HD2.out hB3)
  have HT3 := Lib.hid (HT2.out.mono hB3)
  have HTAB3 := Lib.hid (HTAB2.out.mono hB3)
  have D3 := Lib.hid (D2.out.mono hB3)
  clear hb hB3 HD2 HT2 HTAB2 D2 D_0 D_1 D_l
  obtain ⟨D_0, D_1, D_l⟩ := D3.out.c2
  obtain ⟨F, hF⟩ : ∃ y, tabAll d.cost d.no = y := ⟨_, rfl⟩
  have HTF3 := Lib.hid (show TabC w3 b F from hF ▸ HTAB3.out)
  have HPF := Lib.hid (show TabP F d.no from hF ▸ HP.out)
  have HTO := Lib.hid (show pathN F s d.no 0 d.no = tot from hF ▸ HTOT.out)
  clear hF
  go_wp2_with fail
  clear D_0 D_1 D_l
  go_loopw [8, 9, 10] (fun s8 s9 s10 wr => ∃ (n f t u : Nat) (V : Value) (xs : List Value), V = s8 ∧ s9 = .int .i64 (f : Int) ∧ s10 = .int .i64 (t : Int) ∧ f < t ∧ t ≤ d.no ∧ n + pathN F s u f t = tot ∧ t ≤ u + f ∧ n + t ≤ d.no + f ∧ wr.ownsRow w3.heap.size 3 1 V n xs ∧ Below w3.heap.size w3 wr) (fun _ s9 s10 _ => (intOf s10).toNat - (intOf s9).toNat)
  case atStart => exact ⟨0, 0, d.no, d.no, .slice none 0 0, [], rfl, rfl, rfl, by have := HS.out; omega, Nat.le_refl _, by rw [Nat.zero_add]; exact HTO.out, by omega, by omega, World.ownsRow_nil _ _ _ _, Below.refl _ _⟩
  case round =>
    obtain ⟨n, f, t, u, V, xs, rfl, rfl, rfl, hft, htn, hsum, hu, hn, hown, hb⟩ := hrel
    have hcb := hb
    have hB4 : Below w3.heap.size w3 wr := bTrans (Below.refl _ _) hb
    have HD4 := Lib.hid (bTrans HD3.out hB4)
    have HT4 := Lib.hid (HT3.out.mono hB4)
    have HTAB4 := Lib.hid (HTAB3.out.mono hB4)
    have HTF4 := Lib.hid (HTF3.out.mono hB4)
    have HBL4 := Lib.hid ((show Upto w3 wr from hcb))
    have D4 := Lib.hid (D3.out.mono hB4)
    clear hb hB4
    obtain ⟨D_0, D_1, D_l⟩ := D4.out.c2
    clear hcb
    clear D_0 D_1 D_l
    have HO := Lib.hid hown
    have HSU := Lib.hid hsum
    have hno := HOK.out.no
    have k0 : (0 : Int) ≤ (f : Int) := by omega
    have k1 : (0 : Int) ≤ (t : Int) := by omega
    have hw : IntKind.i64.wrap ((f : Int) + 1) = (f : Int) + 1 := IntWalk.i64_in _ (by omega)
    clear hown hsum
    by_cases hlt : f + 1 < t
    case pos =>
      have q1 : (t : Int) > (f : Int) + 1 := by omega
      have q2 : (f : Int) + 1 < (t : Int) := by omega
      have f8 : (f : Int) < 8 := by omega
      have t8 : (t : Int) < 8 := by omega
      obtain ⟨p, hfp, hpt, hpe⟩ := HPF.out f t hlt htn
      obtain ⟨c1, c2, z1, z2⟩ := HTF4.out.cell (f := f) (t := t) (by omega) (by omega)
      rw [hpe] at c2
      have hbl := HTF4.out.lt
      have HPE := Lib.hid hpe
      have HO2 := Lib.hid (HO.out.alloc (.cells #[.int .i64 (p : Int)] 3))
      have HN := Lib.hid (show (n + 1) * 8 ≤ 140737488355328 by omega)
      have hsz := HBL4.out.size
      clear hpe c1 z1 z2
      go_wp2_with (at_builtin; refine wpList_append_own _ rfl (Operand.tmp 40) (Operand.tmp 42) 23 rfl w3.heap.size 3 i0 (.int .i64 0) 1 8 Tryd.underlying23 hi iz0 iz1 iz2 rfl (by decide) V n xs rfl HO2.out ⟨wr.heap.size, 0, none⟩ 1 1 [.int .i64 (p : Int)] rfl rfl ?c1 ?c2 ?c3 HN.out ?c4 ?_)
      case c1 =>
        intro j u hj
        have hc := cell_of_row _ wr.heap.size j _ _ _ (show (wr.alloc (.cells #[.int .i64 (p : Int)] 3)).heap[wr.heap.size]? = some (Obj.cells #[.int .i64 (p : Int)] 3 (0, 0)) from heap_alloc_new _ _)
        rw [show (⟨wr.heap.size, 0, none⟩ : Addr).add j = ⟨wr.heap.size, j, none⟩ from by unfold Addr.add; split <;> simp_all, hc]
        simpa using hj
      case c2 =>
        intro u hu
        simp only [List.mem_cons, List.not_mem_nil, or_false] at hu
        rcases hu with rfl
        rfl
      case c3 => unfold maxLen; omega
      case c4 => simp <;> omega
      intro v' w4 hown4 hg4 _
      have HO4 := Lib.hid hown4
      have hb4 : Below w3.heap.size w3 w4 := (bTrans HBL4.out (bAlloc (Below.refl _ _) (.cells #[.int .i64 (p : Int)] 3))).grown hg4 (by simp <;> omega) (fun k hk => (HO2.out.lt k hk).1)
      have HB4 := Lib.hid hb4
      clear hown4 hg4 hb4 c2 hbl
      by_cases hsp : s < p
      · have q3 : (s : Int) < (p : Int) := by omega
        go_wp2_with fail
        go_roundw
        case rel =>
          have hq := HPE.out
          refine ⟨n + 1, f, p, u - 1, _, _, rfl, rfl, rfl, hfp, by omega, ?_, by omega, by omega, HO4.out, HB4.out⟩
          obtain ⟨u', rfl⟩ : ∃ u', u = u' + 1 := ⟨u - 1, by omega⟩
          have h := HSU.out
          rw [pathN_lo hlt hq hsp] at h
          rw [Nat.add_sub_cancel]
          omega
        case measure => simp [intOf]; omega
      · have q3 : ¬ (s : Int) < (p : Int) := by omega
        have q4 : decide ((s : Int) < (p : Int)) = false := by simp; omega
        have q5 : decide (s < p) = false := by simp; omega
        go_wp2_with fail
        go_roundw
        case rel =>
          have hq := HPE.out
          refine ⟨n + 1, p, t, u - 1, _, _, rfl, rfl, rfl, hpt, htn, ?_, by omega, by omega, HO4.out, HB4.out⟩
          obtain ⟨u', rfl⟩ : ∃ u', u = u' + 1 := ⟨u - 1, by omega⟩
          have h := HSU.out
          rw [pathN_hi hlt hq hsp] at h
          rw [Nat.add_sub_cancel]
          omega
        case measure => simp [intOf]; omega
    have q1 : ¬ (t : Int) > (f : Int) + 1 := by omega
    have q2 : ¬ (f : Int) + 1 < (t : Int) := by omega
    have q3 : decide ((t : Int) > (f : Int) + 1) = false := by simp; omega
    have q4 : decide ((f : Int) + 1 < (t : Int)) = false := by simp; omega
    have HNT := Lib.hid (show n = tot by have h := HSU.out; rw [pathN_end hlt] at h; exact h)
    obtain ⟨A, c, rfl, _⟩ := RowK.own HO.out
    go_wp2_with fail
    go_ret2
    exact ⟨⟨A, c, by rw [HNT.out]; rfl⟩, HD4.out⟩
end Go.Proofs.YthnojgdckkdcgaaDoor

