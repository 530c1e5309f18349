/- Walk: slices.Repeat of the way that there is not. -/
import Derived.Test.YtbbnpneabmldnaaDoorWalkR
namespace Go.Proofs.YtbbnpneabmldnaaDoor
open Go.RowKit Go.Sort
theorem below_setCells {b : Nat} : ∀ (vs : List Value) (o : Nat) {w x : World}, Below w.heap.size w x → w.heap.size ≤ b → Below w.heap.size w (x.setCells b o vs)
  | [], _, _, _, h, _ => h
  | v :: r, o, w, x, h, hb => below_setCells r (o + 1) (h.setCell (by simpa using hb) v) hb
theorem wpList_copy_ways {P : Program} {w : World} {ops : Array Oper} {rest : List Oper} {o : Oper} {a : Act} {Q : Exit → Act → World → Prop} (hgd : o.guard = none) (d s : Operand) (dT sT : TypeId)
    (ho : o.op = .call { callee := .builtin .copy, args := #[d, s], argTypes := #[dT, sT] }) (elem : TypeId) (hu : P.underlying dT = some (.slice elem)) (hsz : (P.info? elem).map (·.size) = some 3)
    (g p dLen dCap g2 p2 sLen sCap n n2 q q2 k : Nat) (f f2 : Nat → Way) (hd : a.eval d = .slice (some ⟨g, p, none⟩) dLen dCap) (hs : a.eval s = .slice (some ⟨g2, p2, none⟩) sLen sCap)
    (hp : p = q * 3) (hp2 : p2 = q2 * 3) (hk : k = Nat.min sLen dLen) (h1 : WaysAt w g n f) (h2 : WaysAt w g2 n2 f2) (hf : q + k ≤ n) (hf2 : q2 + k ≤ n2) (w0 : World) (hb : Below w0.heap.size w0 w) (hg : w0.heap.size ≤ g)
    (h : ∀ w', WaysAt w' g n (fun i => if q ≤ i ∧ i < q + k then f2 (q2 + (i - q)) else f i) → Below w0.heap.size w0 w' → wpList P ops Q rest (a.put o.dst (goInt k)) w') : wpList P ops Q (o :: rest) a w := by
  subst hp hp2
  refine wpList_plain hgd fun K hK => ?_
  have hrun := run_copy_ways (P := P) w dT sT o.type elem g q dLen dCap g2 q2 sLen sCap n n2 k f f2 hu hsz hk h1 h2 hf hf2
  unfold Oper.wp
  simp [execOp, ho, resolve, invoke, builtin, hd, hs, hrun, Result.andThen]
  exact hK _ _ (h _ (h1.setCells hf _) (below_setCells _ _ hb hg))
theorem step_copy_ways {P : Program} {ops : Array Oper} {o : Oper} {a : Act} {w : World} {K : Act → World → Prop} {Q : Exit → Act → World → Prop} {E : Prop} (hgd : o.guard = none) (d s : Operand) (dT sT : TypeId)
    (ho : o.op = .call { callee := .builtin .copy, args := #[d, s], argTypes := #[dT, sT] }) (elem : TypeId) (hu : P.underlying dT = some (.slice elem)) (hsz : (P.info? elem).map (·.size) = some 3)
    (g p dLen dCap g2 p2 sLen sCap n n2 q q2 k : Nat) (f f2 : Nat → Way) (hd : a.eval d = .slice (some ⟨g, p, none⟩) dLen dCap) (hs : a.eval s = .slice (some ⟨g2, p2, none⟩) sLen sCap)
    (hp : p = q * 3) (hp2 : p2 = q2 * 3) (hk : k = Nat.min sLen dLen) (h1 : WaysAt w g n f) (h2 : WaysAt w g2 n2 f2) (hf : q + k ≤ n) (hf2 : q2 + k ≤ n2) (w0 : World) (hb : Below w0.heap.size w0 w) (hg : w0.heap.size ≤ g)
    (h : ∀ w', Hid (WaysAt w' g n (fun i => if q ≤ i ∧ i < q + k then f2 (q2 + (i - q)) else f i)) → Hid (Below w0.heap.size w0 w') → K (a.put o.dst (goInt k)) w') :
    if Region.wanted o (yielded ops a.tmps) = true then Oper.wp P o a w K Q else E := by
  have hw : Region.wanted o (yielded ops a.tmps) = true := by simp [Region.wanted, hgd]
  rw [if_pos hw]
  subst hp hp2
  have hrun := run_copy_ways (P := P) w dT sT o.type elem g q dLen dCap g2 q2 sLen sCap n n2 k f f2 hu hsz hk h1 h2 hf hf2
  unfold Oper.wp
  simp [execOp, ho, resolve, invoke, builtin, hd, hs, hrun, Result.andThen]
  exact h _ (show _ from h1.setCells hf _) (show _ from below_setCells _ _ hb hg)
theorem sizeWay : (Tryd.prog.info? 84).map (·.size) = some 3 := by kernel_rfl
theorem waysAt_zero (n : Nat) : (madeCells (Value.agg #[.int .i64 0, .int .i64 0, .int .i64 0]).cells (n * 3)).toList = wayL (fun _ => ⟨0, 0, 0⟩) n := by
  apply List.ext_getElem?
  intro j
  by_cases hj : j < n * 3
  · obtain ⟨a, b, c⟩ := wayL_get (fun _ => ⟨0, 0, 0⟩) (n := n) (i := j / 3) (by omega)
    rcases (by omega : j = j / 3 * 3 ∨ j = j / 3 * 3 + 1 ∨ j = j / 3 * 3 + 2) with e | e | e
    · have h1 : j / 3 * 3 < n * 3 := by omega
      have h2 : (j / 3 * 3) % 3 = 0 := by omega
      rw [e, a]; simp [madeCells, Value.cells, h1, h2]
    · have h1 : j / 3 * 3 + 1 < n * 3 := by omega
      have h2 : (j / 3 * 3 + 1) % 3 = 1 := by omega
      rw [e, b]; simp [madeCells, Value.cells, h1, h2]
    · have h1 : j / 3 * 3 + 2 < n * 3 := by omega
      have h2 : (j / 3 * 3 + 2) % 3 = 2 := by omega
      rw [e, c]; simp [madeCells, Value.cells, h1, h2]
  · rw [List.getElem?_eq_none (by simp [madeCells]; omega), List.getElem?_eq_none (by rw [wayL_len]; omega)]
/-- what is there in Repeat's loop: a row of N ways, the first k of which are those that there are not -/
structure Filled (w wr : World) (N k : Nat) : Prop where
  at_ : ∃ f, WaysAt wr w.heap.size N f ∧ ∀ j, j < k → f j = noWay
  below : Below w.heap.size w wr
theorem filled_go {w w2 : World} {N k m : Nat} {f : Nat → Way} (h : ∀ j, j < k → f j = noWay) (hm : m ≤ k) (h2 : WaysAt w2 w.heap.size N (fun i => if k ≤ i ∧ i < k + m then f (0 + (i - k)) else f i)) (hb : Below w.heap.size w w2) : Filled w w2 N (k + m) :=
  ⟨⟨_, h2, fun j hj => by
    by_cases e : k ≤ j ∧ j < k + m
    · simp only [if_pos e]; exact h _ (by omega)
    · simp only [if_neg e]; exact h _ (by omega)⟩, hb⟩
set_option maxHeartbeats 2000000 in
set_option maxRecDepth 100000 in
theorem repeat_any (g c N : Nat) (K : Int) (hK : K = N) (w : World) (h0 : 0 < N) (hN : N ≤ 13) (h : WaysAt w g 1 (fun _ => noWay)) :
    Calls Tryd.prog 93 #[.slice (some ⟨g, 0, none⟩) 1 c, .int .i64 K] w fun e w' => Cloned w w' N (fun _ => noWay) e := by
  subst hK
  have HW := Lib.hid h
  clear h
  obtain ⟨i0, hi, hz0, hz1, hz2⟩ := info_parts infoWay
  go_enter Tryd.func93, Tryd.ntmps93
  go_wp2_with (first | (go_at_call 95; refine (mul_any N _ h0 hN).mono ?_; rintro e w1 ⟨rfl, rfl⟩) | (at_make; refine wpList_make_full _ rfl _ _ 103 rfl w.heap.size 84 i0 (.agg #[.int .i64 0, .int .i64 0, .int .i64 0]) 3 Tryd.underlying103 hi hz0 hz1 .i64 .i64 _ _ N rfl rfl (by omega) (by omega) (by rw [hz2]; omega) (by unfold maxLen; omega) (Nat.le_refl _) ?_; intro w1 hown hgrow; rw [waysAt_zero] at hown; have HN := Lib.hid (waysAt_own hown).2; have HB := Lib.hid (below_grownBy hgrow (Nat.le_refl _) (fun _ e => nomatch e)); clear hown hgrow) | ((with_reducible show wpList _ _ _ _ _ _); refine wpList_copy_ways (o := ⟨some 33, _, _, _, _, _⟩) rfl (.tmp 31) (.tmp 32) 103 103 rfl 84 Tryd.underlying103 sizeWay w.heap.size 0 N N g 0 1 c N 1 0 0 1 (fun _ => ⟨0, 0, 0⟩) (fun _ => noWay) rfl rfl rfl rfl (by show 1 = min 1 N; omega) HN.out (HW.out.mono HB.out) (by omega) (by omega) w HB.out (Nat.le_refl _) ?_; intro w2 h2 hb2; have HF := Lib.hid (Filled.mk (k := 1) ⟨_, h2, fun j hj => (by obtain rfl : j = 0 := (by omega); simp)⟩ hb2); clear h2 hb2))
  go_loopw [8] (fun i wr => ∃ k : Nat, 1 ≤ k ∧ k ≤ N ∧ i = .int .i64 k ∧ Filled w wr N k) (fun i _ => N - (intOf i).toNat)
  case atStart => exact ⟨1, Nat.le_refl _, by omega, rfl, HF.out⟩
  case round =>
    obtain ⟨k, hk1, hk, rfl, hrel⟩ := hrel
    obtain ⟨⟨f, hW, hF⟩, hB⟩ := hrel
    have HW1 := Lib.hid hW
    have HF1 := Lib.hid hF
    have HB1 := Lib.hid hB
    clear hW hF hB
    by_cases hlt : k < N
    · have hne : ¬ N = k := by omega
      go_wp2_with fail
      go_region_law (refine step_copy_ways rfl (.tmp 41) (.tmp 44) 103 103 rfl 84 Tryd.underlying103 sizeWay w.heap.size (k * 3) (N - k) (N - k) w.heap.size 0 k N N N k 0 (min k (N - k)) f f (by simp [Act.eval, Act.put]) (by simp [Act.eval, Act.put]) rfl rfl rfl (HW1.out.mono (bDrew (Below.refl _ _))) (HW1.out.mono (bDrew (Below.refl _ _))) (by omega) (by omega) w (bDrew HB1.out) (Nat.le_refl _) ?_; intro w2 h2 hb2)
      have e1 : IntKind.i64.wrap ((k : Int) + ((min k (N - k) : Nat) : Int)) = ((k + min k (N - k) : Nat) : Int) := (IntWalk.i64_in _ (by omega)).trans (by omega)
      simp only [e1]
      go_simp
      go_roundw
      case rel => refine ⟨_, _, _, _, _, _, _, _, _, _, _, _, _, _, ?_, rfl⟩; exact ⟨k + min k (N - k), by omega, by omega, by go_num, filled_go HF1.out (Nat.min_le_left _ _) h2.out hb2.out⟩
      case measure => simp [intOf]; omega
    · obtain rfl : k = N := by omega
      go_wp2_with fail
      go_ret
      exact ⟨w.heap.size, k, rfl, Nat.le_refl _, HW1.out.congr HF1.out, HB1.out⟩
end Go.Proofs.YtbbnpneabmldnaaDoor
