/- Parts joined: what all claims of this seat need. -/
import Derived.Test.YthnojgdckkdcgaaGreatDoorNSB
import Derived.Laws.EntriesVeiled
set_option linter.unusedSimpArgs false
set_option linter.unusedVariables false
namespace Go.Proofs.YthnojgdckkdcgaaGreatDoor
open Go.RowKit Go.Sort
def numL (l : List Int) : List Value := l.map (Value.int .i64)
/-- a slice of numbers of the call's own -/
def OwnL (w : World) (base : Nat) (v : Value) (l : List Int) : Prop := w.ownsRow base 3 1 v l.length (numL l)
theorem OwnL.nil (w : World) (base : Nat) : OwnL w base (.slice none 0 0) [] := World.ownsRow_nil _ _ _ _
theorem OwnL.mono {w w' : World} {base : Nat} {v : Value} {l : List Int} (h : OwnL w base v l) (hb : Below w.heap.size w w') : OwnL w' base v l := owns_below h hb
theorem OwnL.lower {w : World} {base base' : Nat} {v : Value} {l : List Int} (h : OwnL w base v l) (hb : base' ≤ base) : OwnL w base' v l := owns_lower h hb
/-- a slice that reads as a list of numbers -/
def NumsAt (w : World) (v : Value) (l : List Int) : Prop := ∃ A c, v = .slice A l.length c ∧ RowAt w A (numL l)
theorem OwnL.nums {w : World} {base : Nat} {v : Value} {l : List Int} (h : OwnL w base v l) : NumsAt w v l := by
  rcases Nat.eq_zero_or_pos l.length with h0 | h0
  · obtain rfl := List.eq_nil_of_length_eq_zero h0
    rcases h.2 with ⟨rfl, _⟩ | ⟨g, cap, cur, rfl, _⟩
    · exact ⟨_, _, rfl, .inl rfl⟩
    · exact ⟨_, _, rfl, .inl rfl⟩
  · obtain ⟨A, c, e, hr⟩ := AtHand.row (N := base) (.inr ⟨h0, h⟩)
    exact ⟨A, c, e, hr⟩
/-- 'append(out, x)' -/
theorem wpList_snoc (w : World) {ops : Array Oper} {rest : List Oper} {o : Oper} {a : Act} {Q : Exit → Act → World → Prop} (hg : o.guard = none) (s x : Operand) (hop : o.op = Op.call { callee := Callee.builtin Builtin.append, args := #[s, x], argTypes := #[34, 34] })
    (base : Nat) (v : Value) (l : List Int) (hs : a.eval s = v) (hown : OwnL w base v l) (b : Nat) (y : Int) (hx : a.eval x = .slice (some ⟨b, 0, none⟩) 1 1) (hc : w.cell? ⟨b, 0, none⟩ = some (.int .i64 y)) (hlen : l.length ≤ 1000) (hbase : base ≤ w.heap.size)
    (h : ∀ v' w', OwnL w' base v' (l ++ [y]) → (∀ b0 W, b0 ≤ base → Below b0 W w → Below b0 W w') → wpList Tryz.prog ops Q rest (a.put o.dst v') w') : wpList Tryz.prog ops Q (o :: rest) a w := by
  obtain ⟨i0, hi, iz0, iz1, iz2⟩ := info_parts infoInt
  refine wpList_append_own w hg s x 34 hop base 3 i0 (.int .i64 0) 1 8 Tryz.underlying34 hi iz0 iz1 iz2 rfl (by decide) v l.length (numL l) hs hown ⟨b, 0, none⟩ 1 1 [.int .i64 y] hx rfl (fun j u hj => ?_) (fun u hu => ?_) (by unfold maxLen; omega) (by omega) hbase fun v' w' h1 h2 _ => ?_
  · match j, hj with
    | 0, hj => simp at hj; subst hj; simpa [Addr.add] using hc
  · simp at hu; subst hu; rfl
  · refine h v' w' ?_ fun b0 W hb hB => hB.grown h2 (Nat.le_trans hb hbase) fun k hk => Nat.le_trans hb (hown.lt k hk).1
    show w'.ownsRow base 3 1 v' (l ++ [y]).length (numL (l ++ [y]))
    rw [List.length_append, show numL (l ++ [y]) = numL l ++ [.int .i64 y] from by simp [numL]]
    exact h1
/-- whether a world agrees with the first k facts -/
def Qt.agreesTo (t : Qt) (i k : Nat) : Bool := !anyB (fun j => !(t.world i).agrees (t.fact j)) k
theorem agreesTo_succ (t : Qt) (i k : Nat) : t.agreesTo i (k + 1) = (t.agreesTo i k && (t.world i).agrees (t.fact k)) := by
  unfold Qt.agreesTo
  simp only [anyB]
  cases anyB (fun j => !(t.world i).agrees (t.fact j)) k <;> cases (t.world i).agrees (t.fact k) <;> rfl
/-- what LeftOf hands back -/
def LeftOut (w : World) (base : Nat) (t : Qt) (e : Ending) : Prop := ∃ v, e = .returned v ∧ OwnL w base v t.leftL
set_option maxHeartbeats 4000000 in
set_option maxRecDepth 100000 in
theorem refLeftOf (Aw Af : Option Addr) (cw cf : Nat) (t : Qt) (w : World) (ok : t.Ok) (hT : QAt w Aw Af t) :
    Calls Tryz.prog 10 #[.agg #[.int .i64 t.wells, .slice Aw t.nw cw, .slice Af t.nf cf]] w fun e w' => LeftOut w' w.heap.size t e ∧ Below w.heap.size w w' := by
  have hb0 := bAlloc (Below.refl w.heap.size w) (.cells #[.int .i64 t.wells, .slice Aw t.nw cw, .slice Af t.nf cf] 25)
  have HT := Lib.hid (hT.mono hb0)
  have HB := Lib.hid hb0
  have HOK := Lib.hid ok
  have nw6 := ok.nw
  have nf6 := ok.nf
  clear hT hb0 ok
  go_enter Tryz.func10, Tryz.ntmps10
  go_wp2_with fail
  go_loopw [3, 4] (fun v i wr => ∃ k : Nat, i = .int .i64 k ∧ k ≤ t.nw ∧ OwnL wr (w.alloc (.cells #[.int .i64 t.wells, .slice Aw t.nw cw, .slice Af t.nf cf] 25)).heap.size v (t.leftTo k) ∧ Below (w.alloc (.cells #[.int .i64 t.wells, .slice Aw t.nw cw, .slice Af t.nf cf] 25)).heap.size (w.alloc (.cells #[.int .i64 t.wells, .slice Aw t.nw cw, .slice Af t.nf cf] 25)) wr) (fun _ i _ => t.nw - (intOf i).toNat)
  case atStart => exact ⟨0, rfl, Nat.zero_le _, OwnL.nil _ _, Below.refl _ _⟩
  case round =>
    obtain ⟨k, rfl, hk, hown, hbel⟩ := hrel
    have HO := Lib.hid hown
    have HL3 := Lib.hid hbel
    obtain ⟨bc3, bf3⟩ := bcell hbel
    have hz3 := hbel.size
    simp only [World.size_alloc] at hz3
    have hy3 : w.heap.size < wr.heap.size := hz3
    clear hbel hown
    by_cases hlt : k < t.nw
    · have k1 : (k : Int) < (t.nw : Int) := by omega
      have HK := Lib.hid hlt
      have HLEN := Lib.hid (show (t.leftTo k).length ≤ 1000 from by have := leftTo_len t k; omega)
      go_wp2_with fail
      obtain ⟨wo, hwo⟩ : ∃ wo, wo = wr := ⟨_, rfl⟩
      have HWO := Lib.hid hwo
      clear hwo
      go_loopw [5, 6] (fun s i wr => ∃ j : Nat, s = .bool (t.agreesTo k j) ∧ i = .int .i64 j ∧ j ≤ t.nf ∧ Below wo.heap.size wo wr) (fun _ i _ => t.nf - (intOf i).toNat)
      case atStart => exact ⟨0, rfl, rfl, Nat.zero_le _, by rw [HWO.out]; exact Below.refl _ _⟩
      case round =>
        obtain ⟨j, rfl, rfl, hj, hbel⟩ := hrel
        have HL4 := Lib.hid (bTrans HL3.out (HWO.out ▸ hbel))
        have HL4' := Lib.hid hbel
        obtain ⟨bc4, bf4⟩ := bcell HL4.out
        have hz4 := HL4.out.size
        simp only [World.size_alloc] at hz4
        have hy4 : w.heap.size < wr.heap.size := hz4
        clear hbel
        obtain ⟨bk, hbk⟩ : ∃ bk, t.agreesTo k j = bk := ⟨_, rfl⟩
        rw [hbk]
        have HBK := Lib.hid hbk
        clear hbk
        by_cases hjn : j < t.nf
        · rcases (HT.out.mono HL4.out).facts with h0 | ⟨b, o, hA, hb, hcell⟩
          · omega
          obtain ⟨c0, c1, c2, c3, c4⟩ := hcell j hjn
          have j1 : (j : Int) < (t.nf : Int) := by omega
          have HJ := Lib.hid hjn
          clear hcell
          subst hA
          cases bk
          · have HS := Lib.hid (show t.agreesTo k (j + 1) = false by rw [agreesTo_succ, HBK.out]; rfl)
            go_wp2_with fail
            refine wp_region_quiet_below (by kernel_rfl) (by kernel_rfl) ?_
            repeat (go_big_quiet_step ((fail)))
            refine wpQuiet_nil ?_
            intro w9 hw9
            have HL9 := Lib.hid (bTrans HL4'.out (below_of_regrown hw9))
            clear hw9 c0 c1 c2 c3 c4
            go_wp2_with fail
            go_roundw
            case rel =>
              first
              | exact ⟨j + 1, by rw [HS.out], by go_num, by omega, HL9.out⟩
              | ((repeat apply Exists.intro)
                 refine ⟨⟨j + 1, by rw [HS.out], ?_, by omega, HL9.out⟩, rfl⟩
                 go_num)
            case measure => simp [intOf]; omega
          · obtain ⟨ba, hba⟩ : ∃ ba, (t.world k).agrees (t.fact j) = ba := ⟨_, rfl⟩
            have HS := Lib.hid (show t.agreesTo k (j + 1) = ba by rw [agreesTo_succ, HBK.out, hba]; rfl)
            have HCA := Lib.hid (fun (w' : World) (hb : Below wr.heap.size wr w') => (by
              have := agrees5_any Aw (some ⟨b, o, none⟩) cw cf t k (t.fact j) w' HOK.out HK.out (HOK.out.fact j HJ.out) ((HT.out.mono HL4.out).mono hb)
              rw [hba] at this
              exact this : Calls Tryz.prog 54 #[.agg #[.int .i64 t.wells, .slice Aw t.nw cw, .slice (some ⟨b, o, none⟩) t.nf cf], .int .i64 k, .agg #[.int .i64 (t.fact j).from_, .int .i64 (t.fact j).many, .int .i64 (t.fact j).to_, .int .i64 (t.fact j).low, .int .i64 (t.fact j).high]] w' fun e w'' => e = .returned (.bool ba) ∧ Below w'.heap.size w' w''))
            clear hba
            go_wp2_with fail
            refine wp_region_quiet_below (by kernel_rfl) (by kernel_rfl) ?_
            repeat (go_big_quiet_step ((go_at_call 54; exact Calls.regrown_of (HCA.out _ (below_regrown _ _ _)))))
            refine wpQuiet_nil ?_
            intro w9 hw9
            have HL9 := Lib.hid (bTrans HL4'.out (below_of_regrown hw9))
            clear hw9 c0 c1 c2 c3 c4
            go_wp2_with fail
            go_roundw
            case rel =>
              first
              | exact ⟨j + 1, by rw [HS.out], by go_num, by omega, HL9.out⟩
              | ((repeat apply Exists.intro)
                 refine ⟨⟨j + 1, by rw [HS.out], ?_, by omega, HL9.out⟩, rfl⟩
                 go_num)
            case measure => simp [intOf]; omega
        · obtain rfl : j = t.nf := by omega
          have HO4 := Lib.hid (HO.out.mono (HWO.out ▸ HL4'.out))
          have HBL := Lib.hid (show t.leftB k = bk from HBK.out)
          cases bk
          · have HS := Lib.hid (show t.leftTo (k + 1) = t.leftTo k by
              show (if t.leftB k then t.leftTo k ++ [(k : Int)] else t.leftTo k) = _
              rw [if_neg (by rw [HBL.out]; decide)])
            go_wp2_with fail
            go_roundw
            case rel =>
              first
              | exact ⟨k + 1, by go_num, by omega, by rw [HS.out]; exact HO4.out, HL4.out⟩
              | ((repeat apply Exists.intro)
                 refine ⟨⟨k + 1, ?_, by omega, by rw [HS.out]; exact HO4.out, HL4.out⟩, rfl⟩
                 go_num)
            case measure => simp [intOf]; omega
          · have HS := Lib.hid (show t.leftTo (k + 1) = t.leftTo k ++ [(k : Int)] by
              show (if t.leftB k then _ else _) = _
              rw [if_pos HBL.out])
            go_wp2_with (at_builtin; refine wpList_snoc _ rfl (Operand.tmp 33) (Operand.tmp 35) rfl (w.heap.size + 1) _ (t.leftTo k) rfl ?q1 wr.heap.size k rfl ?q2 HLEN.out ?q3 ?_)
            case q1 =>
              have h := HO4.out
              simp only [World.size_alloc] at h
              exact h.mono (bAlloc (Below.refl _ _) _)
            case q2 => simp [go_sem]
            case q3 => simp; omega
            intro v' w5 hown5 hb5
            have HO5 := Lib.hid hown5
            have HL5 := Lib.hid (hb5 (w.heap.size + 1) _ (Nat.le_refl _) (show Below (w.heap.size + 1) (w.alloc (.cells #[.int .i64 t.wells, .slice Aw t.nw cw, .slice Af t.nf cf] 25)) _ by have := bAlloc HL4.out (.cells #[.int .i64 k] 3); simpa using this))
            clear hown5 hb5
            go_wp2_with fail
            go_roundw
            case rel =>
              have h1 := HO5.out
              have h2 := HL5.out
              first
              | exact ⟨k + 1, by go_num, by omega, by rw [HS.out]; simpa using h1, by simpa using h2⟩
              | ((repeat apply Exists.intro)
                 refine ⟨⟨k + 1, ?_, by omega, by rw [HS.out]; simpa using h1, by simpa using h2⟩, rfl⟩
                 go_num)
            case measure => simp [intOf]; omega
    · obtain rfl : k = t.nw := by omega
      go_wp2_with fail
      go_ret
      exact ⟨⟨_, rfl, HO.out.lower (by simp)⟩, bTrans HB.out HL3.out⟩
end Go.Proofs.YthnojgdckkdcgaaGreatDoor

namespace Go.Proofs.YthnojgdckkdcgaaGreatDoor
open Go.RowKit Go.Sort
theorem askErr_ok {t : Qt} (h : t.Ok) (is : Bool) : t.askErr is = if is then 0 else 1 := by unfold Qt.askErr; rw [Qt.err_ok h]; rfl
theorem askErr_bad {t : Qt} (h : ¬ t.Ok) (is : Bool) : t.askErr is = 50 := by unfold Qt.askErr; rw [Qt.err_bad h]; rfl
end Go.Proofs.YthnojgdckkdcgaaGreatDoor

namespace Go.Proofs.YthnojgdckkdcgaaGreatDoor
open Go.RowKit Go.Sort
/-- whether a number is that of a well, as Go reckons it -/
def Qt.wellB (t : Qt) (n : Int) : Bool := inR n 0 (IntKind.i64.wrap (t.wells - 1))
theorem wellB_ok {t : Qt} (ok : t.Ok) (n : Int) : t.wellB n = inR n 0 (t.wells - 1) := by
  have h0 := ok.w0
  have h1 := ok.w1
  unfold Qt.wellB
  rw [show IntKind.i64.wrap (t.wells - 1) = t.wells - 1 from IntWalk.i64_in _ (by omega)]
/-- what Left hands back -/
def Left5Out (w : World) (base : Nat) (t : Qt) (e : Ending) : Prop := ∃ v, e = .returned (.tuple #[v, .int .i64 t.err]) ∧ (t.Ok → OwnL w base v t.leftL) ∧ (¬ t.Ok → v = .slice none 0 0)
/-- the numbers below n of which something is so -/
def selTo (p : Nat → Bool) : Nat → List Int
  | 0 => []
  | n + 1 => if p n then selTo p n ++ [(n : Int)] else selTo p n
theorem selTo_len (p : Nat → Bool) : ∀ n, (selTo p n).length ≤ n
  | 0 => Nat.le_refl _
  | n + 1 => by
    have := selTo_len p n
    unfold selTo
    split
    · rw [List.length_append]; simp; omega
    · omega
end Go.Proofs.YthnojgdckkdcgaaGreatDoor

namespace Go.Proofs.YthnojgdckkdcgaaGreatDoor
open Go.RowKit Go.Sort
/-- a function of the program that has a body is entered -/
def Enters (f : Nat) : Prop := ∀ (args : Array Value) (w : World), (callFunc f args).run Tryz.prog w = .ok (.enter f args) w
theorem enters_of {f : Nat} {fn : Func} (hf : Tryz.prog.funcs[f]? = some fn) (hb : (fn.name == "runtime.NumGoroutine" || fn.body.isNone) = false) : Enters f := fun args w => by
  obtain ⟨h1, h2⟩ := Bool.or_eq_false_iff.1 hb
  have h1' : ¬ fn.name = "runtime.NumGoroutine" := by simpa using h1
  have h2' : ¬ fn.body = none := by intro h; rw [h] at h2; cases h2
  simp only [callFunc, Sem.run_bind]
  simp [go_sem, hf]
  rw [if_neg h1', if_neg h2']
/-- what slices.IndexFunc returns says whether one was found -/
def Found (b : Bool) (w : World) (e : Ending) (w' : World) : Prop := ∃ k : Int, e = .returned (.int .i64 k) ∧ decide (0 ≤ k) = b ∧ Below w.heap.size w w'
set_option maxHeartbeats 2000000 in
set_option maxRecDepth 100000 in
theorem index_int (A : Option Addr) (n c f : Nat) (cs : Array Value) (g : Nat → Int) (p : Nat → Bool) (w : World) (hn : n ≤ 9223372036854775807) (hr : IntsAt w A n g) (hcf : Enters f)
    (hf : ∀ i, i < n → ∀ w', Below w.heap.size w w' → Calls Tryz.prog f (#[.int .i64 (g i)] ++ cs) w' fun e w'' => e = .returned (.bool (p i)) ∧ Below w'.heap.size w' w'') :
    Calls Tryz.prog 197 #[.slice A n c, .func (.func f) #[] cs] w (Found (anyB p n) w) := by
  have HC := Lib.hid hr
  have HF := Lib.hid hf
  unfold Enters at hcf
  clear hr hf
  go_enter Tryz.func197, Tryz.ntmps197
  go_wp2_with fail
  go_loopw [5, 8] (fun _ i wr => ∃ k : Nat, k ≤ n ∧ i = .int .i64 k ∧ anyB p k = false ∧ Below w.heap.size w wr) (fun _ i _ => n - (intOf i).toNat)
  case atStart => exact ⟨0, Nat.zero_le _, rfl, rfl, Below.refl _ _⟩
  case round =>
    obtain ⟨k, hk, rfl, hno, hbel⟩ := hrel
    have HN := Lib.hid hno
    have HL := Lib.hid hbel
    clear hno
    by_cases hlt : k < n
    · rcases HC.out with h0 | ⟨b, o, hA, hb, hcell⟩
      · omega
      have c0 := hcell k hlt
      have HK := Lib.hid hlt
      obtain ⟨bk, hbk⟩ : ∃ bk, p k = bk := ⟨_, rfl⟩
      have HCC := Lib.hid (hbk ▸ HF.out k HK.out _ hbel : Calls Tryz.prog f (#[.int .i64 (g k)] ++ cs) wr fun e w'' => e = .returned (.bool bk) ∧ Below wr.heap.size wr w'')
      have HBK := Lib.hid hbk
      clear hbk hcell
      subst hA
      obtain ⟨bc, bf⟩ := bcell hbel
      go_wp2_with fail
      refine HCC.out.mono ?_
      rintro e w4 ⟨rfl, hb4⟩
      have HL4 := Lib.hid (bTrans HL.out hb4)
      clear hb4 hbel
      cases bk
      · go_wp2_with fail
        go_roundw
        case rel => exact ⟨k + 1, by omega, by go_num, anyB_step HN.out HBK.out, HL4.out⟩
        case measure => simp [intOf]; omega
      · go_wp2_with fail
        go_ret
        exact ⟨k, rfl, by rw [anyB_hit HK.out HBK.out]; simp, HL4.out⟩
    · obtain rfl : k = n := by omega
      go_wp2_with fail
      go_ret
      exact ⟨-1, rfl, by simp [HN.out], hbel⟩
theorem contains_int (A : Option Addr) (n c f : Nat) (cs : Array Value) (g : Nat → Int) (p : Nat → Bool) (w : World) (hn : n ≤ 9223372036854775807) (hr : IntsAt w A n g) (hcf : Enters f)
    (hf : ∀ i, i < n → ∀ w', Below w.heap.size w w' → Calls Tryz.prog f (#[.int .i64 (g i)] ++ cs) w' fun e w'' => e = .returned (.bool (p i)) ∧ Below w'.heap.size w' w'') :
    Calls Tryz.prog 173 #[.slice A n c, .func (.func f) #[] cs] w fun e w' => e = .returned (.bool (anyB p n)) ∧ Below w.heap.size w w' := by
  go_enter Tryz.func173, Tryz.ntmps173
  go_wp2_with (go_at_call 197; refine (index_int A n c f cs g p _ hn hr hcf hf).mono ?_; rintro e w' ⟨k, rfl, hk, hb⟩; have HK := Lib.hid hk; clear hk)
  all_goals
    go_ret
    exact ⟨ret_bool (by rw [← HK.out]), hb⟩
theorem none_int (A : Option Addr) (n c f : Nat) (cs : Array Value) (g : Nat → Int) (p : Nat → Bool) (w : World) (hn : n ≤ 9223372036854775807) (hr : IntsAt w A n g) (hcf : Enters f)
    (hf : ∀ i, i < n → ∀ w', Below w.heap.size w w' → Calls Tryz.prog f (#[.int .i64 (g i)] ++ cs) w' fun e w'' => e = .returned (.bool (p i)) ∧ Below w'.heap.size w' w'') :
    Calls Tryz.prog 177 #[.slice A n c, .func (.func f) #[] cs] w fun e w' => e = .returned (.bool (!anyB p n)) ∧ Below w.heap.size w w' := by
  go_enter Tryz.func177, Tryz.ntmps177
  go_wp2_with (go_at_call 173; refine (contains_int A n c f cs g p _ hn hr hcf hf).mono ?_; rintro e w' ⟨rfl, hb⟩)
  go_ret
  exact ⟨rfl, hb⟩
set_option maxHeartbeats 2000000 in
set_option maxRecDepth 100000 in
theorem index_row (A : Option Addr) (c f : Nat) (cs : Array Value) (x : Wd) (p : Nat → Bool) (w : World) (hn : x.n ≤ 9223372036854775807) (hr : RowsAt w A x) (hcf : Enters f)
    (hf : ∀ i, i < x.n → ∀ w', Below w.heap.size w w' → ∀ (A' : Option Addr) (c' : Nat), IntsAt w' A' (x.len i) (x.fall i) → Calls Tryz.prog f (#[.slice A' (x.len i) c'] ++ cs) w' fun e w'' => e = .returned (.bool (p i)) ∧ Below w'.heap.size w' w'') :
    Calls Tryz.prog 202 #[.slice A x.n c, .func (.func f) #[] cs] w (Found (anyB p x.n) w) := by
  have HC := Lib.hid hr
  have HF := Lib.hid hf
  unfold Enters at hcf
  clear hr hf
  go_enter Tryz.func202, Tryz.ntmps202
  go_wp2_with fail
  go_loopw [5, 8] (fun _ i wr => ∃ k : Nat, k ≤ x.n ∧ i = .int .i64 k ∧ anyB p k = false ∧ Below w.heap.size w wr) (fun _ i _ => x.n - (intOf i).toNat)
  case atStart => exact ⟨0, Nat.zero_le _, rfl, rfl, Below.refl _ _⟩
  case round =>
    obtain ⟨k, hk, rfl, hno, hbel⟩ := hrel
    have HN := Lib.hid hno
    have HL := Lib.hid hbel
    clear hno
    by_cases hlt : k < x.n
    · rcases HC.out with h0 | ⟨b, o, hA, hb, hcell⟩
      · omega
      obtain ⟨A', c', c0, hrow, _⟩ := hcell k hlt
      have HK := Lib.hid hlt
      obtain ⟨bk, hbk⟩ : ∃ bk, p k = bk := ⟨_, rfl⟩
      have HCC := Lib.hid (hbk ▸ HF.out k HK.out _ hbel A' c' (hrow.mono hbel) : Calls Tryz.prog f (#[.slice A' (x.len k) c'] ++ cs) wr fun e w'' => e = .returned (.bool bk) ∧ Below wr.heap.size wr w'')
      have HBK := Lib.hid hbk
      clear hbk hcell hrow
      subst hA
      obtain ⟨bc, bf⟩ := bcell hbel
      go_wp2_with fail
      refine HCC.out.mono ?_
      rintro e w4 ⟨rfl, hb4⟩
      have HL4 := Lib.hid (bTrans HL.out hb4)
      clear hb4 hbel
      cases bk
      · go_wp2_with fail
        go_roundw
        case rel => exact ⟨k + 1, by omega, by go_num, anyB_step HN.out HBK.out, HL4.out⟩
        case measure => simp [intOf]; omega
      · go_wp2_with fail
        go_ret
        exact ⟨k, rfl, by rw [anyB_hit HK.out HBK.out]; simp, HL4.out⟩
    · obtain rfl : x.n = k := by omega
      go_wp2_with fail
      go_ret
      exact ⟨-1, rfl, by simp [HN.out], hbel⟩
theorem contains_row (A : Option Addr) (c f : Nat) (cs : Array Value) (x : Wd) (p : Nat → Bool) (w : World) (hn : x.n ≤ 9223372036854775807) (hr : RowsAt w A x) (hcf : Enters f)
    (hf : ∀ i, i < x.n → ∀ w', Below w.heap.size w w' → ∀ (A' : Option Addr) (c' : Nat), IntsAt w' A' (x.len i) (x.fall i) → Calls Tryz.prog f (#[.slice A' (x.len i) c'] ++ cs) w' fun e w'' => e = .returned (.bool (p i)) ∧ Below w'.heap.size w' w'') :
    Calls Tryz.prog 193 #[.slice A x.n c, .func (.func f) #[] cs] w fun e w' => e = .returned (.bool (anyB p x.n)) ∧ Below w.heap.size w w' := by
  go_enter Tryz.func193, Tryz.ntmps193
  go_wp2_with (go_at_call 202; refine (index_row A c f cs x p _ hn hr hcf hf).mono ?_; rintro e w' ⟨k, rfl, hk, hb⟩; have HK := Lib.hid hk; clear hk)
  all_goals
    go_ret
    exact ⟨ret_bool (by rw [← HK.out]), hb⟩
theorem none_row (A : Option Addr) (c f : Nat) (cs : Array Value) (x : Wd) (p : Nat → Bool) (w : World) (hn : x.n ≤ 9223372036854775807) (hr : RowsAt w A x) (hcf : Enters f)
    (hf : ∀ i, i < x.n → ∀ w', Below w.heap.size w w' → ∀ (A' : Option Addr) (c' : Nat), IntsAt w' A' (x.len i) (x.fall i) → Calls Tryz.prog f (#[.slice A' (x.len i) c'] ++ cs) w' fun e w'' => e = .returned (.bool (p i)) ∧ Below w'.heap.size w' w'') :
    Calls Tryz.prog 180 #[.slice A x.n c, .func (.func f) #[] cs] w fun e w' => e = .returned (.bool (!anyB p x.n)) ∧ Below w.heap.size w w' := by
  go_enter Tryz.func180, Tryz.ntmps180
  go_wp2_with (go_at_call 193; refine (contains_row A c f cs x p _ hn hr hcf hf).mono ?_; rintro e w' ⟨rfl, hb⟩)
  go_ret
  exact ⟨rfl, hb⟩
set_option maxHeartbeats 2000000 in
set_option maxRecDepth 100000 in
theorem index_world (A : Option Addr) (n c f : Nat) (cs : Array Value) (g : Nat → Wd) (p : Nat → Bool) (w : World) (hn : n ≤ 9223372036854775807) (hr : WorldsAt w A n g) (hcf : Enters f)
    (hf : ∀ i, i < n → ∀ w', Below w.heap.size w w' → ∀ (A' : Option Addr) (c' : Nat), RowsAt w' A' (g i) → (g i).n ≤ 9223372036854775807 → Calls Tryz.prog f (#[.agg #[.slice A' (g i).n c']] ++ cs) w' fun e w'' => e = .returned (.bool (p i)) ∧ Below w'.heap.size w' w'') :
    Calls Tryz.prog 209 #[.slice A n c, .func (.func f) #[] cs] w (Found (anyB p n) w) := by
  have HC := Lib.hid hr
  have HF := Lib.hid hf
  unfold Enters at hcf
  clear hr hf
  go_enter Tryz.func209, Tryz.ntmps209
  go_wp2_with fail
  go_loopw [5, 8] (fun _ i wr => ∃ k : Nat, k ≤ n ∧ i = .int .i64 k ∧ anyB p k = false ∧ Below w.heap.size w wr) (fun _ i _ => n - (intOf i).toNat)
  case atStart => exact ⟨0, Nat.zero_le _, rfl, rfl, Below.refl _ _⟩
  case round =>
    obtain ⟨k, hk, rfl, hno, hbel⟩ := hrel
    have HN := Lib.hid hno
    have HL := Lib.hid hbel
    clear hno
    by_cases hlt : k < n
    · rcases HC.out with h0 | ⟨b, o, hA, hb, hcell⟩
      · omega
      obtain ⟨A', c', c0, hrow, hlen⟩ := hcell k hlt
      have HK := Lib.hid hlt
      obtain ⟨bk, hbk⟩ : ∃ bk, p k = bk := ⟨_, rfl⟩
      have HCC := Lib.hid (hbk ▸ HF.out k HK.out _ hbel A' c' (hrow.mono hbel) (hlen) : Calls Tryz.prog f (#[.agg #[.slice A' (g k).n c']] ++ cs) wr fun e w'' => e = .returned (.bool bk) ∧ Below wr.heap.size wr w'')
      have HBK := Lib.hid hbk
      clear hbk hcell hrow hlen
      subst hA
      obtain ⟨bc, bf⟩ := bcell hbel
      go_wp2_with fail
      refine HCC.out.mono ?_
      rintro e w4 ⟨rfl, hb4⟩
      have HL4 := Lib.hid (bTrans HL.out hb4)
      clear hb4 hbel
      cases bk
      · go_wp2_with fail
        go_roundw
        case rel => exact ⟨k + 1, by omega, by go_num, anyB_step HN.out HBK.out, HL4.out⟩
        case measure => simp [intOf]; omega
      · go_wp2_with fail
        go_ret
        exact ⟨k, rfl, by rw [anyB_hit HK.out HBK.out]; simp, HL4.out⟩
    · obtain rfl : k = n := by omega
      go_wp2_with fail
      go_ret
      exact ⟨-1, rfl, by simp [HN.out], hbel⟩
theorem contains_world (A : Option Addr) (n c f : Nat) (cs : Array Value) (g : Nat → Wd) (p : Nat → Bool) (w : World) (hn : n ≤ 9223372036854775807) (hr : WorldsAt w A n g) (hcf : Enters f)
    (hf : ∀ i, i < n → ∀ w', Below w.heap.size w w' → ∀ (A' : Option Addr) (c' : Nat), RowsAt w' A' (g i) → (g i).n ≤ 9223372036854775807 → Calls Tryz.prog f (#[.agg #[.slice A' (g i).n c']] ++ cs) w' fun e w'' => e = .returned (.bool (p i)) ∧ Below w'.heap.size w' w'') :
    Calls Tryz.prog 199 #[.slice A n c, .func (.func f) #[] cs] w fun e w' => e = .returned (.bool (anyB p n)) ∧ Below w.heap.size w w' := by
  go_enter Tryz.func199, Tryz.ntmps199
  go_wp2_with (go_at_call 209; refine (index_world A n c f cs g p _ hn hr hcf hf).mono ?_; rintro e w' ⟨k, rfl, hk, hb⟩; have HK := Lib.hid hk; clear hk)
  all_goals
    go_ret
    exact ⟨ret_bool (by rw [← HK.out]), hb⟩
theorem none_world (A : Option Addr) (n c f : Nat) (cs : Array Value) (g : Nat → Wd) (p : Nat → Bool) (w : World) (hn : n ≤ 9223372036854775807) (hr : WorldsAt w A n g) (hcf : Enters f)
    (hf : ∀ i, i < n → ∀ w', Below w.heap.size w w' → ∀ (A' : Option Addr) (c' : Nat), RowsAt w' A' (g i) → (g i).n ≤ 9223372036854775807 → Calls Tryz.prog f (#[.agg #[.slice A' (g i).n c']] ++ cs) w' fun e w'' => e = .returned (.bool (p i)) ∧ Below w'.heap.size w' w'') :
    Calls Tryz.prog 182 #[.slice A n c, .func (.func f) #[] cs] w fun e w' => e = .returned (.bool (!anyB p n)) ∧ Below w.heap.size w w' := by
  go_enter Tryz.func182, Tryz.ntmps182
  go_wp2_with (go_at_call 199; refine (contains_world A n c f cs g p _ hn hr hcf hf).mono ?_; rintro e w' ⟨rfl, hb⟩)
  go_ret
  exact ⟨rfl, hb⟩
set_option maxHeartbeats 2000000 in
set_option maxRecDepth 100000 in
theorem index_fact (A : Option Addr) (n c f : Nat) (cs : Array Value) (g : Nat → Fact) (p : Nat → Bool) (w : World) (hn : n ≤ 9223372036854775807) (hr : FactsAt w A n g) (hcf : Enters f)
    (hf : ∀ i, i < n → ∀ w', Below w.heap.size w w' → Calls Tryz.prog f (#[.agg #[.int .i64 (g i).from_, .int .i64 (g i).many, .int .i64 (g i).to_, .int .i64 (g i).low, .int .i64 (g i).high]] ++ cs) w' fun e w'' => e = .returned (.bool (p i)) ∧ Below w'.heap.size w' w'') :
    Calls Tryz.prog 200 #[.slice A n c, .func (.func f) #[] cs] w (Found (anyB p n) w) := by
  have HC := Lib.hid hr
  have HF := Lib.hid hf
  unfold Enters at hcf
  clear hr hf
  go_enter Tryz.func200, Tryz.ntmps200
  go_wp2_with fail
  go_loopw [5, 8] (fun _ i wr => ∃ k : Nat, k ≤ n ∧ i = .int .i64 k ∧ anyB p k = false ∧ Below w.heap.size w wr) (fun _ i _ => n - (intOf i).toNat)
  case atStart => exact ⟨0, Nat.zero_le _, rfl, rfl, Below.refl _ _⟩
  case round =>
    obtain ⟨k, hk, rfl, hno, hbel⟩ := hrel
    have HN := Lib.hid hno
    have HL := Lib.hid hbel
    clear hno
    by_cases hlt : k < n
    · rcases HC.out with h0 | ⟨b, o, hA, hb, hcell⟩
      · omega
      obtain ⟨c0, c1, c2, c3, c4⟩ := hcell k hlt
      have HK := Lib.hid hlt
      obtain ⟨bk, hbk⟩ : ∃ bk, p k = bk := ⟨_, rfl⟩
      have HCC := Lib.hid (hbk ▸ HF.out k HK.out _ hbel : Calls Tryz.prog f (#[.agg #[.int .i64 (g k).from_, .int .i64 (g k).many, .int .i64 (g k).to_, .int .i64 (g k).low, .int .i64 (g k).high]] ++ cs) wr fun e w'' => e = .returned (.bool bk) ∧ Below wr.heap.size wr w'')
      have HBK := Lib.hid hbk
      clear hbk hcell
      subst hA
      obtain ⟨bc, bf⟩ := bcell hbel
      go_wp2_with fail
      refine HCC.out.mono ?_
      rintro e w4 ⟨rfl, hb4⟩
      have HL4 := Lib.hid (bTrans HL.out hb4)
      clear hb4 hbel
      cases bk
      · go_wp2_with fail
        go_roundw
        case rel => exact ⟨k + 1, by omega, by go_num, anyB_step HN.out HBK.out, HL4.out⟩
        case measure => simp [intOf]; omega
      · go_wp2_with fail
        go_ret
        exact ⟨k, rfl, by rw [anyB_hit HK.out HBK.out]; simp, HL4.out⟩
    · obtain rfl : k = n := by omega
      go_wp2_with fail
      go_ret
      exact ⟨-1, rfl, by simp [HN.out], hbel⟩
theorem contains_fact (A : Option Addr) (n c f : Nat) (cs : Array Value) (g : Nat → Fact) (p : Nat → Bool) (w : World) (hn : n ≤ 9223372036854775807) (hr : FactsAt w A n g) (hcf : Enters f)
    (hf : ∀ i, i < n → ∀ w', Below w.heap.size w w' → Calls Tryz.prog f (#[.agg #[.int .i64 (g i).from_, .int .i64 (g i).many, .int .i64 (g i).to_, .int .i64 (g i).low, .int .i64 (g i).high]] ++ cs) w' fun e w'' => e = .returned (.bool (p i)) ∧ Below w'.heap.size w' w'') :
    Calls Tryz.prog 183 #[.slice A n c, .func (.func f) #[] cs] w fun e w' => e = .returned (.bool (anyB p n)) ∧ Below w.heap.size w w' := by
  go_enter Tryz.func183, Tryz.ntmps183
  go_wp2_with (go_at_call 200; refine (index_fact A n c f cs g p _ hn hr hcf hf).mono ?_; rintro e w' ⟨k, rfl, hk, hb⟩; have HK := Lib.hid hk; clear hk)
  all_goals
    go_ret
    exact ⟨ret_bool (by rw [← HK.out]), hb⟩
theorem none_fact (A : Option Addr) (n c f : Nat) (cs : Array Value) (g : Nat → Fact) (p : Nat → Bool) (w : World) (hn : n ≤ 9223372036854775807) (hr : FactsAt w A n g) (hcf : Enters f)
    (hf : ∀ i, i < n → ∀ w', Below w.heap.size w w' → Calls Tryz.prog f (#[.agg #[.int .i64 (g i).from_, .int .i64 (g i).many, .int .i64 (g i).to_, .int .i64 (g i).low, .int .i64 (g i).high]] ++ cs) w' fun e w'' => e = .returned (.bool (p i)) ∧ Below w'.heap.size w' w'') :
    Calls Tryz.prog 148 #[.slice A n c, .func (.func f) #[] cs] w fun e w' => e = .returned (.bool (!anyB p n)) ∧ Below w.heap.size w w' := by
  go_enter Tryz.func148, Tryz.ntmps148
  go_wp2_with (go_at_call 183; refine (contains_fact A n c f cs g p _ hn hr hcf hf).mono ?_; rintro e w' ⟨rfl, hb⟩)
  go_ret
  exact ⟨rfl, hb⟩
end Go.Proofs.YthnojgdckkdcgaaGreatDoor

namespace Go.Proofs.YthnojgdckkdcgaaGreatDoor
open Go.RowKit Go.Sort
theorem withinQ_b (n lo hi : Int) (b : Bool) (w : World) (h : inR n lo hi = b) : Calls Tryz.prog 112 #[.int .i64 n, .int .i64 lo, .int .i64 hi] w fun e w' => e = .returned (.bool b) ∧ w = w' := by
  have H := Lib.hid h
  clear h
  go_enter Tryz.func112, Tryz.ntmps112
  go_wp2
  all_goals
    go_ret
    exact ⟨ret_bool (by rw [← H.out]; unfold inR; simp; omega), rfl⟩
theorem isWellQ_any (Aw Af : Option Addr) (cw cf : Nat) (t : Qt) (n : Int) (w : World) :
    Calls Tryz.prog 60 #[.agg #[.int .i64 t.wells, .slice Aw t.nw cw, .slice Af t.nf cf], .int .i64 n] w fun e w' => e = .returned (.bool (t.wellB n)) ∧ Below w.heap.size w w' := by
  obtain ⟨m, hm⟩ : ∃ m, IntKind.i64.wrap (t.wells - 1) = m := ⟨_, rfl⟩
  have H := Lib.hid (show inR n 0 m = t.wellB n by unfold Qt.wellB; rw [hm])
  go_enter Tryz.func60, Tryz.ntmps60
  go_wp2_with fail
  refine (withinQ_b _ _ _ _ _ H.out).mono ?_
  rintro e w' ⟨rfl, rfl⟩
  go_wp2_with fail
  go_ret
  exact ⟨rfl, bAlloc (Below.refl _ _) _⟩
theorem check11_any (n : Int) (w : World) : Calls Tryz.prog 178 #[.int .i64 n] w fun e w' => e = .returned (.bool (!inR n 0 9)) ∧ Below w.heap.size w w' := by
  go_enter Tryz.func178, Tryz.ntmps178
  go_wp2_with fail
  refine (withinQ_b _ _ _ _ _ rfl).mono ?_
  rintro e w' ⟨rfl, rfl⟩
  go_wp2_with fail
  go_ret
  exact ⟨rfl, Below.refl _ _⟩
/-- whether a row is none of a town with so many wells -/
def rowBad (m : Int) (n : Nat) (g : Nat → Int) : Bool := !decide ((n : Int) = m) || anyB (fun j => !inR (g j) 0 9) n
theorem check1_any (A : Option Addr) (n c a : Nat) (g : Nat → Int) (m : Int) (w : World) (hn : n ≤ 9223372036854775807) (hr : IntsAt w A n g) (ha : a < w.heap.size) (hc : w.cell? ⟨a, 0, none⟩ = some (.int .i64 m)) :
    Calls Tryz.prog 176 #[.slice A n c, .pointer (some ⟨a, 0, none⟩)] w fun e w' => e = .returned (.bool (rowBad m n g)) ∧ Below w.heap.size w w' := by
  have HR := Lib.hid hr
  clear hr
  by_cases hnm : (n : Int) = m
  · have g1 : ((n : Int) != m) = false := by rw [hnm]; simp
    have HE := Lib.hid (show rowBad m n g = anyB (fun j => !inR (g j) 0 9) n by unfold rowBad; simp [hnm])
    clear hnm
    obtain ⟨bk, hbk⟩ : ∃ bk, anyB (fun j => !inR (g j) 0 9) n = bk := ⟨_, rfl⟩
    have HC := Lib.hid (hbk ▸ none_int A n c 178 #[] g (fun j => !inR (g j) 0 9) w hn HR.out (enters_of Tryz.func178 (by kernel_rfl)) (fun i _ w' _ => check11_any (g i) w') : Calls Tryz.prog 177 #[.slice A n c, .func (.func 178) #[] #[]] w fun e w' => e = .returned (.bool (!bk)) ∧ Below w.heap.size w w')
    have HBK := Lib.hid hbk
    clear hbk
    go_enter Tryz.func176, Tryz.ntmps176
    go_wp2_with fail
    refine HC.out.mono ?_
    rintro e w1 ⟨rfl, hb1⟩
    cases bk
    all_goals
      go_wp2_with fail
      go_ret
      exact ⟨by rw [HE.out, HBK.out]; rfl, hb1⟩
  · have g1 : ((n : Int) != m) = true := bne_iff_ne.2 hnm
    have HE := Lib.hid (show rowBad m n g = true by unfold rowBad; simp [hnm])
    clear hnm
    go_enter Tryz.func176, Tryz.ntmps176
    go_wp2_with fail
    go_ret
    exact ⟨by rw [HE.out]; rfl, Below.refl _ _⟩
/-- whether a world is none of a town with so many wells -/
def Wd.badB (m : Int) (x : Wd) : Bool := !decide ((x.n : Int) = m) || anyB (fun k => rowBad m (x.len k) (x.fall k)) x.n
theorem Wd.badB_iff (m : Int) (x : Wd) : x.badB m = false ↔ x.Ok m := by
  unfold Wd.badB rowBad
  simp only [Bool.or_eq_false_iff, Bool.not_eq_false', decide_eq_true_eq, anyB_false, inR_iff]
  exact ⟨fun ⟨a, b⟩ => ⟨a, fun k hk => (b k hk).1, fun k hk => (b k hk).2⟩, fun h => ⟨h.n, fun k hk => ⟨h.len k hk, h.fall k hk⟩⟩⟩
set_option maxHeartbeats 1000000 in
set_option maxRecDepth 100000 in
theorem check2_any (A : Option Addr) (c a r : Nat) (x : Wd) (m : Int) (w : World) (hn : x.n ≤ 9223372036854775807) (hlen : ∀ k, k < x.n → x.len k ≤ 9223372036854775807) (hr : RowsAt w A x) (ha : a < w.heap.size) (hc : w.cell? ⟨a, 0, none⟩ = some (.int .i64 m)) (har : r < w.heap.size) (hcr : w.cell? ⟨r, 0, none⟩ = some (.func (.func 176) #[] #[.pointer (some ⟨a, 0, none⟩)])) :
    Calls Tryz.prog 179 #[.agg #[.slice A x.n c], .pointer (some ⟨a, 0, none⟩), .pointer (some ⟨r, 0, none⟩)] w fun e w' => e = .returned (.bool (x.badB m)) ∧ Below w.heap.size w w' := by
  have hb0 := bAlloc (Below.refl w.heap.size w) (.cells #[.slice A x.n c] 101)
  have HR := Lib.hid (hr.mono hb0)
  have HB := Lib.hid hb0
  have HLEN := Lib.hid hlen
  clear hr hb0 hlen
  by_cases hnm : (x.n : Int) = m
  · have g1 : ((x.n : Int) != m) = false := by rw [hnm]; simp
    have HE := Lib.hid (show x.badB m = anyB (fun k => rowBad m (x.len k) (x.fall k)) x.n by unfold Wd.badB; simp [hnm])
    clear hnm
    obtain ⟨bk, hbk⟩ : ∃ bk, anyB (fun k => rowBad m (x.len k) (x.fall k)) x.n = bk := ⟨_, rfl⟩
    have hcw : (w.alloc (.cells #[.slice A x.n c] 101)).cell? ⟨a, 0, none⟩ = some (.int .i64 m) := (HB.out.cell (p := ⟨a, 0, none⟩) ha).trans hc
    have HC := Lib.hid (hbk ▸ none_row A c 176 #[.pointer (some ⟨a, 0, none⟩)] x (fun k => rowBad m (x.len k) (x.fall k)) (w.alloc (.cells #[.slice A x.n c] 101)) hn HR.out (enters_of Tryz.func176 (by kernel_rfl)) (fun i hi w' hb A' c' hi' => check1_any A' (x.len i) c' a (x.fall i) m w' (HLEN.out i hi) hi' (Nat.lt_of_lt_of_le (show a < (w.alloc (.cells #[.slice A x.n c] 101)).heap.size by simp; omega) hb.size) ((hb.cell (p := ⟨a, 0, none⟩) (by simp; omega)).trans hcw)) : Calls Tryz.prog 180 #[.slice A x.n c, .func (.func 176) #[] #[.pointer (some ⟨a, 0, none⟩)]] (w.alloc (.cells #[.slice A x.n c] 101)) fun e w' => e = .returned (.bool (!bk)) ∧ Below (w.alloc (.cells #[.slice A x.n c] 101)).heap.size (w.alloc (.cells #[.slice A x.n c] 101)) w')
    have HBK := Lib.hid hbk
    clear hbk hcw
    go_enter Tryz.func179, Tryz.ntmps179
    go_wp2_with fail
    refine HC.out.mono ?_
    rintro e w1 ⟨rfl, hb1⟩
    cases bk
    all_goals
      go_wp2_with fail
      go_ret
      exact ⟨by rw [HE.out, HBK.out]; rfl, bTrans HB.out hb1⟩
  · have g1 : ((x.n : Int) != m) = true := bne_iff_ne.2 hnm
    have HE := Lib.hid (show x.badB m = true by unfold Wd.badB; simp [hnm])
    clear hnm
    go_enter Tryz.func179, Tryz.ntmps179
    go_wp2_with fail
    go_ret
    exact ⟨by rw [HE.out]; rfl, HB.out⟩
end Go.Proofs.YthnojgdckkdcgaaGreatDoor

namespace Go.Proofs.YthnojgdckkdcgaaGreatDoor
open Go.RowKit Go.Sort
theorem BoxAt.five {w : World} {a : Nat} {x y z u v : Value} (h : a < w.heap.size) (h0 : w.cell? ⟨a, 0, none⟩ = some x) (h1 : w.cell? ⟨a, 1, none⟩ = some y) (h2 : w.cell? ⟨a, 2, none⟩ = some z) (h3 : w.cell? ⟨a, 3, none⟩ = some u) (h4 : w.cell? ⟨a, 4, none⟩ = some v) : BoxAt w a [x, y, z, u, v] :=
  ⟨h, fun i q hi => match i, hi with
    | 0, hi => by injection hi with hi; subst hi; exact h0
    | 1, hi => by injection hi with hi; subst hi; exact h1
    | 2, hi => by injection hi with hi; subst hi; exact h2
    | 3, hi => by injection hi with hi; subst hi; exact h3
    | 4, hi => by injection hi with hi; subst hi; exact h4⟩
open Classical in
noncomputable def Fact.okB (m : Int) (f : Fact) : Bool := decide (f.Ok m)
theorem Fact.okB_t {m : Int} {f : Fact} (h : f.Ok m) : f.okB m = true := by unfold Fact.okB; simpa using h
theorem Fact.okB_f {m : Int} {f : Fact} (h : ¬ f.Ok m) : f.okB m = false := by unfold Fact.okB; simpa using h
theorem Fact.okB_iff {m : Int} {f : Fact} : f.okB m = true ↔ f.Ok m := by unfold Fact.okB; simp
theorem isWellQ_b (Aw Af : Option Addr) (cw cf : Nat) (t : Qt) (n : Int) (b : Bool) (w : World) (h0 : 0 ≤ t.wells) (h1 : t.wells ≤ 4) (h : inR n 0 (t.wells - 1) = b) :
    Calls Tryz.prog 60 #[.agg #[.int .i64 t.wells, .slice Aw t.nw cw, .slice Af t.nf cf], .int .i64 n] w fun e w' => e = .returned (.bool b) ∧ Below w.heap.size w w' := by
  have := isWellQ_any Aw Af cw cf t n w
  rw [show t.wellB n = b from by unfold Qt.wellB; rw [show IntKind.i64.wrap (t.wells - 1) = t.wells - 1 from IntWalk.i64_in _ (by omega)]; exact h] at this
  exact this
theorem factQ_cases (t : Qt) (f : Fact) : (f.Ok t.wells ∧ inR f.from_ 0 (t.wells - 1) = true ∧ inR f.to_ 0 (t.wells - 1) = true ∧ inR f.many 1 9 = true ∧ inR f.low 0 f.high = true ∧ ¬ 99 < f.high) ∨ (¬ f.Ok t.wells ∧ ((inR f.from_ 0 (t.wells - 1) = false) ∨ (inR f.from_ 0 (t.wells - 1) = true ∧ inR f.to_ 0 (t.wells - 1) = false) ∨ (inR f.from_ 0 (t.wells - 1) = true ∧ inR f.to_ 0 (t.wells - 1) = true ∧ inR f.many 1 9 = false) ∨ (inR f.from_ 0 (t.wells - 1) = true ∧ inR f.to_ 0 (t.wells - 1) = true ∧ inR f.many 1 9 = true ∧ inR f.low 0 f.high = false) ∨ (inR f.from_ 0 (t.wells - 1) = true ∧ inR f.to_ 0 (t.wells - 1) = true ∧ inR f.many 1 9 = true ∧ inR f.low 0 f.high = true ∧ 99 < f.high))) := by
  cases h1 : inR f.from_ 0 (t.wells - 1)
  · exact .inr ⟨(fun h => by rw [inR_t ⟨h.f0, by have := h.f1; omega⟩] at h1; cases h1), .inl rfl⟩
  · cases h2 : inR f.to_ 0 (t.wells - 1)
    · exact .inr ⟨(fun h => by rw [inR_t ⟨h.t0, by have := h.t1; omega⟩] at h2; cases h2), .inr (.inl ⟨rfl, rfl⟩)⟩
    · cases h3 : inR f.many 1 9
      · exact .inr ⟨(fun h => by rw [inR_t ⟨h.m0, h.m1⟩] at h3; cases h3), .inr (.inr (.inl ⟨rfl, rfl, rfl⟩))⟩
      · cases h4 : inR f.low 0 f.high
        · exact .inr ⟨(fun h => by rw [inR_t ⟨h.l0, h.l1⟩] at h4; cases h4), .inr (.inr (.inr (.inl ⟨rfl, rfl, rfl, rfl⟩)))⟩
        · by_cases h5 : 99 < f.high
          · exact .inr ⟨(fun h => by have := h.h1; omega), .inr (.inr (.inr (.inr ⟨rfl, rfl, rfl, rfl, h5⟩)))⟩
          · have a := inR_iff.1 h1
            have b := inR_iff.1 h2
            have c := inR_iff.1 h3
            have e := inR_iff.1 h4
            exact .inl ⟨⟨a.1, by omega, b.1, by omega, c.1, c.2, e.1, e.2, by omega⟩, rfl, rfl, rfl, rfl, h5⟩
set_option maxHeartbeats 4000000 in
set_option maxRecDepth 100000 in
theorem check3_any (Aw Af : Option Addr) (cw cf a : Nat) (t : Qt) (f : Fact) (w : World) (w0 : 0 ≤ t.wells) (w1 : t.wells ≤ 4) (hX : BoxAt w a [.int .i64 t.wells, .slice Aw t.nw cw, .slice Af t.nf cf]) :
    Calls Tryz.prog 181 #[.agg #[.int .i64 f.from_, .int .i64 f.many, .int .i64 f.to_, .int .i64 f.low, .int .i64 f.high], .pointer (some ⟨a, 0, none⟩)] w fun e w' => e = .returned (.bool (!f.okB t.wells)) ∧ Below w.heap.size w w' := by
  have hb0 := bAlloc (Below.refl w.heap.size w) (.cells #[.int .i64 f.from_, .int .i64 f.many, .int .i64 f.to_, .int .i64 f.low, .int .i64 f.high] 27)
  have HB := Lib.hid hb0
  have HX := Lib.hid (hX.mono hb0)
  have HF := Lib.hid (BoxAt.five (w := w.alloc (.cells #[.int .i64 f.from_, .int .i64 f.many, .int .i64 f.to_, .int .i64 f.low, .int .i64 f.high] 27)) (a := w.heap.size) (x := .int .i64 f.from_) (y := .int .i64 f.many) (z := .int .i64 f.to_) (u := .int .i64 f.low) (v := .int .i64 f.high) (by simp) (by simp [go_sem]) (by simp [go_sem]) (by simp [go_sem]) (by simp [go_sem]) (by simp [go_sem]))
  have x0 := hX.cell 0 _ rfl
  have y0 := hX.cell 1 _ rfl
  have z0 := hX.cell 2 _ rfl
  have u0 := hX.lt
  clear hb0 hX
  rcases factQ_cases t f with ⟨hok, g1, g2, g3, g4, g5⟩ | ⟨hno, hcase⟩
  · have HE := Lib.hid (show (!f.okB t.wells) = false by rw [Fact.okB_t hok]; rfl)
    clear hok
    have g5' : decide (99 < f.high) = false := by simpa using g5
    go_enter Tryz.func181, Tryz.ntmps181
    have G1 := Lib.hid g1
    have G2 := Lib.hid g2
    have G3 := Lib.hid g3
    have G4 := Lib.hid g4
    clear g1 g2 g3 g4
    go_wp2_with fail
    refine (isWellQ_b _ _ _ _ t _ _ _ w0 w1 G1.out).mono ?_
    rintro e w6 ⟨rfl, hb6⟩
    have HB6 := Lib.hid (bTrans HB.out hb6)
    have HX6 := Lib.hid (HX.out.mono hb6)
    have HF6 := Lib.hid (HF.out.mono hb6)
    have x6 := HX6.out.cell 0 _ rfl
    have y6 := HX6.out.cell 1 _ rfl
    have z6 := HX6.out.cell 2 _ rfl
    have u6 := HX6.out.lt
    have c6 := HF6.out.cell 2 _ rfl
    have d6 := HF6.out.cell 1 _ rfl
    have v6 := HF6.out.lt
    have e6 := HF6.out.cell 3 _ rfl
    have f6 := HF6.out.cell 4 _ rfl
    clear hb6 x0 y0 z0 u0
    go_wp2_with fail
    refine (isWellQ_b _ _ _ _ t _ _ _ w0 w1 G2.out).mono ?_
    rintro e w7 ⟨rfl, hb7⟩
    have HB7 := Lib.hid (bTrans HB6.out hb7)
    have HF7 := Lib.hid (HF6.out.mono hb7)
    have d7 := HF7.out.cell 1 _ rfl
    have v7 := HF7.out.lt
    have e7 := HF7.out.cell 3 _ rfl
    have f7 := HF7.out.cell 4 _ rfl
    clear hb7 x6 y6 z6 u6 c6 d6 v6 e6 f6
    go_wp2_with fail
    refine (withinQ_b _ _ _ _ _ G3.out).mono ?_
    rintro e w' ⟨rfl, rfl⟩
    go_wp2_with fail
    refine (withinQ_b _ _ _ _ _ G4.out).mono ?_
    rintro e w' ⟨rfl, rfl⟩
    go_wp2_with fail
    go_ret
    exact ⟨by rw [HE.out]; rfl, HB7.out⟩
  · have HE := Lib.hid (show (!f.okB t.wells) = true by rw [Fact.okB_f hno]; rfl)
    clear hno
    go_enter Tryz.func181, Tryz.ntmps181
    rcases hcase with g1 | ⟨g1, g2⟩ | ⟨g1, g2, g3⟩ | ⟨g1, g2, g3, g4⟩ | ⟨g1, g2, g3, g4, g5⟩
    · skip
      have G1 := Lib.hid g1
      clear g1
      go_wp2_with fail
      refine (isWellQ_b _ _ _ _ t _ _ _ w0 w1 G1.out).mono ?_
      rintro e w6 ⟨rfl, hb6⟩
      have HB6 := Lib.hid (bTrans HB.out hb6)
      have HX6 := Lib.hid (HX.out.mono hb6)
      have HF6 := Lib.hid (HF.out.mono hb6)
      have x6 := HX6.out.cell 0 _ rfl
      have y6 := HX6.out.cell 1 _ rfl
      have z6 := HX6.out.cell 2 _ rfl
      have u6 := HX6.out.lt
      have c6 := HF6.out.cell 2 _ rfl
      have d6 := HF6.out.cell 1 _ rfl
      have v6 := HF6.out.lt
      have e6 := HF6.out.cell 3 _ rfl
      have f6 := HF6.out.cell 4 _ rfl
      clear hb6 x0 y0 z0 u0
      go_wp2_with fail
      go_ret
      exact ⟨by rw [HE.out]; rfl, HB6.out⟩
    · skip
      have G1 := Lib.hid g1
      have G2 := Lib.hid g2
      clear g1 g2
      go_wp2_with fail
      refine (isWellQ_b _ _ _ _ t _ _ _ w0 w1 G1.out).mono ?_
      rintro e w6 ⟨rfl, hb6⟩
      have HB6 := Lib.hid (bTrans HB.out hb6)
      have HX6 := Lib.hid (HX.out.mono hb6)
      have HF6 := Lib.hid (HF.out.mono hb6)
      have x6 := HX6.out.cell 0 _ rfl
      have y6 := HX6.out.cell 1 _ rfl
      have z6 := HX6.out.cell 2 _ rfl
      have u6 := HX6.out.lt
      have c6 := HF6.out.cell 2 _ rfl
      have d6 := HF6.out.cell 1 _ rfl
      have v6 := HF6.out.lt
      have e6 := HF6.out.cell 3 _ rfl
      have f6 := HF6.out.cell 4 _ rfl
      clear hb6 x0 y0 z0 u0
      go_wp2_with fail
      refine (isWellQ_b _ _ _ _ t _ _ _ w0 w1 G2.out).mono ?_
      rintro e w7 ⟨rfl, hb7⟩
      have HB7 := Lib.hid (bTrans HB6.out hb7)
      have HF7 := Lib.hid (HF6.out.mono hb7)
      have d7 := HF7.out.cell 1 _ rfl
      have v7 := HF7.out.lt
      have e7 := HF7.out.cell 3 _ rfl
      have f7 := HF7.out.cell 4 _ rfl
      clear hb7 x6 y6 z6 u6 c6 d6 v6 e6 f6
      go_wp2_with fail
      go_ret
      exact ⟨by rw [HE.out]; rfl, HB7.out⟩
    · skip
      have G1 := Lib.hid g1
      have G2 := Lib.hid g2
      have G3 := Lib.hid g3
      clear g1 g2 g3
      go_wp2_with fail
      refine (isWellQ_b _ _ _ _ t _ _ _ w0 w1 G1.out).mono ?_
      rintro e w6 ⟨rfl, hb6⟩
      have HB6 := Lib.hid (bTrans HB.out hb6)
      have HX6 := Lib.hid (HX.out.mono hb6)
      have HF6 := Lib.hid (HF.out.mono hb6)
      have x6 := HX6.out.cell 0 _ rfl
      have y6 := HX6.out.cell 1 _ rfl
      have z6 := HX6.out.cell 2 _ rfl
      have u6 := HX6.out.lt
      have c6 := HF6.out.cell 2 _ rfl
      have d6 := HF6.out.cell 1 _ rfl
      have v6 := HF6.out.lt
      have e6 := HF6.out.cell 3 _ rfl
      have f6 := HF6.out.cell 4 _ rfl
      clear hb6 x0 y0 z0 u0
      go_wp2_with fail
      refine (isWellQ_b _ _ _ _ t _ _ _ w0 w1 G2.out).mono ?_
      rintro e w7 ⟨rfl, hb7⟩
      have HB7 := Lib.hid (bTrans HB6.out hb7)
      have HF7 := Lib.hid (HF6.out.mono hb7)
      have d7 := HF7.out.cell 1 _ rfl
      have v7 := HF7.out.lt
      have e7 := HF7.out.cell 3 _ rfl
      have f7 := HF7.out.cell 4 _ rfl
      clear hb7 x6 y6 z6 u6 c6 d6 v6 e6 f6
      go_wp2_with fail
      refine (withinQ_b _ _ _ _ _ G3.out).mono ?_
      rintro e w' ⟨rfl, rfl⟩
      go_wp2_with fail
      go_ret
      exact ⟨by rw [HE.out]; rfl, HB7.out⟩
    · skip
      have G1 := Lib.hid g1
      have G2 := Lib.hid g2
      have G3 := Lib.hid g3
      have G4 := Lib.hid g4
      clear g1 g2 g3 g4
      go_wp2_with fail
      refine (isWellQ_b _ _ _ _ t _ _ _ w0 w1 G1.out).mono ?_
      rintro e w6 ⟨rfl, hb6⟩
      have HB6 := Lib.hid (bTrans HB.out hb6)
      have HX6 := Lib.hid (HX.out.mono hb6)
      have HF6 := Lib.hid (HF.out.mono hb6)
      have x6 := HX6.out.cell 0 _ rfl
      have y6 := HX6.out.cell 1 _ rfl
      have z6 := HX6.out.cell 2 _ rfl
      have u6 := HX6.out.lt
      have c6 := HF6.out.cell 2 _ rfl
      have d6 := HF6.out.cell 1 _ rfl
      have v6 := HF6.out.lt
      have e6 := HF6.out.cell 3 _ rfl
      have f6 := HF6.out.cell 4 _ rfl
      clear hb6 x0 y0 z0 u0
      go_wp2_with fail
      refine (isWellQ_b _ _ _ _ t _ _ _ w0 w1 G2.out).mono ?_
      rintro e w7 ⟨rfl, hb7⟩
      have HB7 := Lib.hid (bTrans HB6.out hb7)
      have HF7 := Lib.hid (HF6.out.mono hb7)
      have d7 := HF7.out.cell 1 _ rfl
      have v7 := HF7.out.lt
      have e7 := HF7.out.cell 3 _ rfl
      have f7 := HF7.out.cell 4 _ rfl
      clear hb7 x6 y6 z6 u6 c6 d6 v6 e6 f6
      go_wp2_with fail
      refine (withinQ_b _ _ _ _ _ G3.out).mono ?_
      rintro e w' ⟨rfl, rfl⟩
      go_wp2_with fail
      refine (withinQ_b _ _ _ _ _ G4.out).mono ?_
      rintro e w' ⟨rfl, rfl⟩
      go_wp2_with fail
      go_ret
      exact ⟨by rw [HE.out]; rfl, HB7.out⟩
    · skip
      have G1 := Lib.hid g1
      have G2 := Lib.hid g2
      have G3 := Lib.hid g3
      have G4 := Lib.hid g4
      clear g1 g2 g3 g4
      go_wp2_with fail
      refine (isWellQ_b _ _ _ _ t _ _ _ w0 w1 G1.out).mono ?_
      rintro e w6 ⟨rfl, hb6⟩
      have HB6 := Lib.hid (bTrans HB.out hb6)
      have HX6 := Lib.hid (HX.out.mono hb6)
      have HF6 := Lib.hid (HF.out.mono hb6)
      have x6 := HX6.out.cell 0 _ rfl
      have y6 := HX6.out.cell 1 _ rfl
      have z6 := HX6.out.cell 2 _ rfl
      have u6 := HX6.out.lt
      have c6 := HF6.out.cell 2 _ rfl
      have d6 := HF6.out.cell 1 _ rfl
      have v6 := HF6.out.lt
      have e6 := HF6.out.cell 3 _ rfl
      have f6 := HF6.out.cell 4 _ rfl
      clear hb6 x0 y0 z0 u0
      go_wp2_with fail
      refine (isWellQ_b _ _ _ _ t _ _ _ w0 w1 G2.out).mono ?_
      rintro e w7 ⟨rfl, hb7⟩
      have HB7 := Lib.hid (bTrans HB6.out hb7)
      have HF7 := Lib.hid (HF6.out.mono hb7)
      have d7 := HF7.out.cell 1 _ rfl
      have v7 := HF7.out.lt
      have e7 := HF7.out.cell 3 _ rfl
      have f7 := HF7.out.cell 4 _ rfl
      clear hb7 x6 y6 z6 u6 c6 d6 v6 e6 f6
      go_wp2_with fail
      refine (withinQ_b _ _ _ _ _ G3.out).mono ?_
      rintro e w' ⟨rfl, rfl⟩
      go_wp2_with fail
      refine (withinQ_b _ _ _ _ _ G4.out).mono ?_
      rintro e w' ⟨rfl, rfl⟩
      go_wp2_with fail
      go_ret
      exact ⟨by rw [HE.out]; rfl, HB7.out⟩

theorem BoxAt.one {w : World} {a : Nat} {x : Value} (h : a < w.heap.size) (h0 : w.cell? ⟨a, 0, none⟩ = some x) : BoxAt w a [x] :=
  ⟨h, fun i q hi => match i, hi with
    | 0, hi => by injection hi with hi; subst hi; exact h0⟩
set_option maxHeartbeats 8000000 in
set_option maxRecDepth 100000 in
theorem checkQ_any (Aw Af : Option Addr) (cw cf : Nat) (t : Qt) (w : World) (hs : t.nw ≤ 9223372036854775807) (hl : t.nf ≤ 9223372036854775807) (hlen : ∀ i, i < t.nw → ∀ k, k < (t.world i).n → (t.world i).len k ≤ 9223372036854775807) (hT : QAt w Aw Af t) :
    Calls Tryz.prog 147 #[.agg #[.int .i64 t.wells, .slice Aw t.nw cw, .slice Af t.nf cf]] w fun e w' => e = .returned (.int .i64 t.err) ∧ Below w.heap.size w w' := by
  have HLEN := Lib.hid hlen
  have hbw : Below w.heap.size w ((w.alloc (.cells #[.int .i64 t.wells, .slice Aw t.nw cw, .slice Af t.nf cf] 25)).alloc (.cells #[.func (.func 176) #[] #[.pointer (some ⟨w.heap.size, 0, none⟩)]] 239)) := bAlloc (bAlloc (Below.refl _ _) _) _
  have HT := Lib.hid (hT.mono hbw)
  have HB := Lib.hid hbw
  have HX := Lib.hid (BoxAt.three (w := ((w.alloc (.cells #[.int .i64 t.wells, .slice Aw t.nw cw, .slice Af t.nf cf] 25)).alloc (.cells #[.func (.func 176) #[] #[.pointer (some ⟨w.heap.size, 0, none⟩)]] 239))) (a := w.heap.size) (x := .int .i64 t.wells) (y := .slice Aw t.nw cw) (z := .slice Af t.nf cf) (by simp <;> omega) (by simp [go_sem]) (by simp [go_sem]) (by simp [go_sem]))
  have HR := Lib.hid (BoxAt.one (w := ((w.alloc (.cells #[.int .i64 t.wells, .slice Aw t.nw cw, .slice Af t.nf cf] 25)).alloc (.cells #[.func (.func 176) #[] #[.pointer (some ⟨w.heap.size, 0, none⟩)]] 239))) (a := w.heap.size + 1) (x := .func (.func 176) #[] #[.pointer (some ⟨w.heap.size, 0, none⟩)]) (by simp) (by simp [go_sem]))
  clear hT hlen hbw
  by_cases hw : inR t.wells 0 4 = true
  case neg =>
    have HW := Lib.hid (Bool.eq_false_iff.2 hw)
    have HE := Lib.hid (Qt.err_bad (t := t) fun h => hw (inR_t ⟨h.w0, h.w1⟩))
    clear hw
    go_enter Tryz.func147, Tryz.ntmps147
    go_wp2_with fail
    refine (withinQ_b _ _ _ _ _ HW.out).mono ?_
    rintro e w' ⟨rfl, rfl⟩
    go_wp2_with fail
    go_ret
    exact ⟨by rw [HE.out]; rfl, HB.out⟩
  obtain ⟨w0, w1⟩ := inR_iff.1 hw
  have HW := Lib.hid hw
  clear hw
  by_cases hn : t.nw ≤ 6
  case neg =>
    have m1 : (6 : Int) < (t.nw : Int) := by omega
    have HE := Lib.hid (Qt.err_bad (t := t) fun h => hn h.nw)
    clear hn
    go_enter Tryz.func147, Tryz.ntmps147
    go_wp2_with fail
    refine (withinQ_b _ _ _ _ _ HW.out).mono ?_
    rintro e w' ⟨rfl, rfl⟩
    go_wp2_with fail
    go_ret
    exact ⟨by rw [HE.out]; rfl, HB.out⟩
  have m1 : ¬ (6 : Int) < (t.nw : Int) := by omega
  have HWL := Lib.hid (show ∀ i, i < t.nw → (t.world i).n ≤ 9223372036854775807 → True from fun _ _ _ => trivial)
  obtain ⟨bk, hbk⟩ : ∃ bk, anyB (fun i => (t.world i).badB t.wells) t.nw = bk := ⟨_, rfl⟩
  have HBK := Lib.hid hbk
  have HC := Lib.hid (hbk ▸ none_world Aw t.nw cw 179 #[.pointer (some ⟨w.heap.size, 0, none⟩), .pointer (some ⟨w.heap.size + 1, 0, none⟩)] t.world (fun i => (t.world i).badB t.wells) ((w.alloc (.cells #[.int .i64 t.wells, .slice Aw t.nw cw, .slice Af t.nf cf] 25)).alloc (.cells #[.func (.func 176) #[] #[.pointer (some ⟨w.heap.size, 0, none⟩)]] 239)) hs HT.out.worlds (enters_of Tryz.func179 (by kernel_rfl))
    (fun i hi w' hb A' c' hr hn' => check2_any A' c' w.heap.size (w.heap.size + 1) (t.world i) t.wells w' hn' (HLEN.out i hi) hr (HX.out.mono hb).lt ((HX.out.mono hb).cell 0 _ rfl) (HR.out.mono hb).lt ((HR.out.mono hb).cell 0 _ rfl)) :
    Calls Tryz.prog 182 #[.slice Aw t.nw cw, .func (.func 179) #[] #[.pointer (some ⟨w.heap.size, 0, none⟩), .pointer (some ⟨w.heap.size + 1, 0, none⟩)]] ((w.alloc (.cells #[.int .i64 t.wells, .slice Aw t.nw cw, .slice Af t.nf cf] 25)).alloc (.cells #[.func (.func 176) #[] #[.pointer (some ⟨w.heap.size, 0, none⟩)]] 239)) fun e w' => e = .returned (.bool (!bk)) ∧ Below ((w.alloc (.cells #[.int .i64 t.wells, .slice Aw t.nw cw, .slice Af t.nf cf] 25)).alloc (.cells #[.func (.func 176) #[] #[.pointer (some ⟨w.heap.size, 0, none⟩)]] 239)).heap.size ((w.alloc (.cells #[.int .i64 t.wells, .slice Aw t.nw cw, .slice Af t.nf cf] 25)).alloc (.cells #[.func (.func 176) #[] #[.pointer (some ⟨w.heap.size, 0, none⟩)]] 239)) w')
  clear hbk hn
  cases bk
  case true =>
    have HE := Lib.hid (Qt.err_bad (t := t) fun h => by
      obtain ⟨i, hi, hbad⟩ := anyB_true.1 HBK.out
      rw [(Wd.badB_iff _ _).2 (h.world i hi)] at hbad
      cases hbad)
    go_enter Tryz.func147, Tryz.ntmps147
    go_wp2_with fail
    refine (withinQ_b _ _ _ _ _ HW.out).mono ?_
    rintro e w' ⟨rfl, rfl⟩
    go_wp2_with fail
    refine HC.out.mono ?_
    rintro e w1 ⟨rfl, hb1⟩
    go_wp2_with fail
    go_ret
    exact ⟨by rw [HE.out]; rfl, bTrans HB.out hb1⟩
  have HWO := Lib.hid (show ∀ i, i < t.nw → (t.world i).Ok t.wells from fun i hi => (Wd.badB_iff _ _).1 (anyB_false.1 HBK.out i hi))
  by_cases hnf : t.nf ≤ 6
  case neg =>
    have m2 : (6 : Int) < (t.nf : Int) := by omega
    have HE := Lib.hid (Qt.err_bad (t := t) fun h => hnf h.nf)
    clear hnf
    go_enter Tryz.func147, Tryz.ntmps147
    go_wp2_with fail
    refine (withinQ_b _ _ _ _ _ HW.out).mono ?_
    rintro e w' ⟨rfl, rfl⟩
    go_wp2_with fail
    refine HC.out.mono ?_
    rintro e w1 ⟨rfl, hb1⟩
    have HX1 := Lib.hid (HX.out.mono hb1)
    have x1 := HX1.out.lt
    have y1 := HX1.out.cell 2 _ rfl
    have HB1 := Lib.hid hb1
    clear hb1
    go_wp2_with fail
    go_ret
    exact ⟨by rw [HE.out]; rfl, bTrans HB.out HB1.out⟩
  have m2 : ¬ (6 : Int) < (t.nf : Int) := by omega
  have HNF := Lib.hid hnf
  have HNW := Lib.hid (show t.nw ≤ 6 by omega)
  clear hnf
  obtain ⟨bf, hbf⟩ : ∃ bf, anyB (fun i => !(t.fact i).okB t.wells) t.nf = bf := ⟨_, rfl⟩
  have HBF := Lib.hid hbf
  have HCF := Lib.hid (fun (W : World) (hb : Below ((w.alloc (.cells #[.int .i64 t.wells, .slice Aw t.nw cw, .slice Af t.nf cf] 25)).alloc (.cells #[.func (.func 176) #[] #[.pointer (some ⟨w.heap.size, 0, none⟩)]] 239)).heap.size ((w.alloc (.cells #[.int .i64 t.wells, .slice Aw t.nw cw, .slice Af t.nf cf] 25)).alloc (.cells #[.func (.func 176) #[] #[.pointer (some ⟨w.heap.size, 0, none⟩)]] 239)) W) => (hbf ▸ none_fact Af t.nf cf 181 #[.pointer (some ⟨w.heap.size, 0, none⟩)] t.fact (fun i => !(t.fact i).okB t.wells) W hl (HT.out.mono hb).facts (enters_of Tryz.func181 (by kernel_rfl))
    (fun i hi w' hb' => check3_any Aw Af cw cf w.heap.size t (t.fact i) w' w0 w1 ((HX.out.mono hb).mono hb')) :
    Calls Tryz.prog 148 #[.slice Af t.nf cf, .func (.func 181) #[] #[.pointer (some ⟨w.heap.size, 0, none⟩)]] W fun e w' => e = .returned (.bool (!bf)) ∧ Below W.heap.size W w'))
  clear hbf
  have HE := Lib.hid (show t.err = (if bf then 50 else 0) by
    cases bf
    · exact Qt.err_ok ⟨w0, w1, HNW.out, HNF.out, HWO.out, fun i hi => Fact.okB_iff.1 (by have := anyB_false.1 HBF.out i hi; simpa using this)⟩
    · refine Qt.err_bad fun h => ?_
      obtain ⟨i, hi, hbad⟩ := anyB_true.1 HBF.out
      rw [Fact.okB_t (h.fact i hi)] at hbad
      cases hbad)
  go_enter Tryz.func147, Tryz.ntmps147
  go_wp2_with fail
  refine (withinQ_b _ _ _ _ _ HW.out).mono ?_
  rintro e w' ⟨rfl, rfl⟩
  go_wp2_with fail
  refine HC.out.mono ?_
  rintro e w1 ⟨rfl, hb1⟩
  have HX1 := Lib.hid (HX.out.mono hb1)
  have x1 := HX1.out.lt
  have y1 := HX1.out.cell 2 _ rfl
  have HB1 := Lib.hid hb1
  clear hb1
  go_wp2_with fail
  refine (HCF.out _ HB1.out).mono ?_
  rintro e w2 ⟨rfl, hb2⟩
  cases bf
  all_goals
    go_wp2_with fail
    go_ret
    exact ⟨by rw [HE.out]; rfl, bTrans HB.out (bTrans HB1.out hb2)⟩
end Go.Proofs.YthnojgdckkdcgaaGreatDoor

