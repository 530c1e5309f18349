/- Parts joined. -/
import Derived.Test.YtchhodikgllgnaaDoorNQQ
import Derived.Test.YtchhodikgllgnaaDoorNQR
import Derived.Test.YtchhodikgllgnaaDoorNQT
set_option linter.unusedSimpArgs false
set_option linter.unusedVariables false
/- A town of the call's own whose worlds and facts are stored anew, one by one. No program in sight. -/
namespace Go.Proofs.YtchhodikgllgnaaDoor
open Go.RowKit Go.Sort
theorem owns_put {w : World} {base : Nat} {e : TypeId} {size g n cap : Nat} {xs : List Value} (h : w.ownsRow base e size (.slice (some ⟨g, 0, none⟩) n cap) n xs) (j : Nat) (u : Value) : (w.setCell ⟨g, j, none⟩ u).ownsRow base e size (.slice (some ⟨g, 0, none⟩) n cap) n (xs.set j u) := by
  obtain ⟨h1, h2⟩ := h
  rcases h2 with ⟨e0, _⟩ | ⟨g', cap', cur, e', h3, h4, h5, h6, h7, h8⟩
  · cases e0
  · injection e' with e1 _ e3
    injection e1 with e1
    injection e1 with e1
    subst e1 e3
    refine ⟨by rw [List.length_set]; exact h1, .inr ⟨g, cap, cur.setIfInBounds j u, rfl, h3, TBox.set (show TBox w g e cur from h4) j u, h5, h6, by simp [h7], ?_⟩⟩
    rw [Array.toList_setIfInBounds, ← h8, List.take_set]
theorem owns_box {w : World} {base : Nat} {e : TypeId} {size g n cap : Nat} {xs : List Value} (h : w.ownsRow base e size (.slice (some ⟨g, 0, none⟩) n cap) n xs) : base ≤ g ∧ ∃ cur, TBox w g e cur ∧ cur.toList.take (n * size) = xs := by
  rcases h.2 with ⟨e0, _⟩ | ⟨g', cap', cur, e', h3, h4, h5, h6, h7, h8⟩
  · cases e0
  · injection e' with e1 _ e3
    injection e1 with e1
    injection e1 with e1
    subst e1 e3
    exact ⟨h3, cur, h4, h8⟩
theorem WsRows.put {w : World} {f : Nat → Wd} {n : Nat} {us : List Value} (h : WsRows w f n us) {k : Nat} {u : Value} {x : Wd} (hv : WdK w u x) (hn : x.n ≤ 9223372036854775807) : WsRows w (fun j => if j = k then x else f j) n (us.set k u) :=
  ⟨by rw [List.length_set, h.1], fun i v hi => by
    show WdK w v (if i = k then x else f i) ∧ (if i = k then x else f i).n ≤ _
    rw [List.getElem?_set] at hi
    by_cases e : k = i
    · subst e
      rw [if_pos rfl] at hi
      rw [if_pos rfl]
      split at hi
      · injection hi with hi
        exact hi ▸ ⟨hv, hn⟩
      · cases hi
    · rw [if_neg e] at hi
      rw [if_neg (Ne.symm e)]
      exact h.2 i v hi⟩
/-- so many worlds are stored anew -/
def mixW (t : Qt) (b k j : Nat) : Wd := if j < k then t.world ((j + b) % t.nw) else t.world j
theorem mixW_step (t : Qt) (b k j : Nat) : (if j = k then t.world ((k + b) % t.nw) else mixW t b k j) = mixW t b (k + 1) j := by
  unfold mixW
  by_cases h : j = k
  · subst h
    rw [if_pos rfl, if_pos (Nat.lt_succ_self _)]
  · rw [if_neg h]
    by_cases h1 : j < k
    · rw [if_pos h1, if_pos (by omega)]
    · rw [if_neg h1, if_neg (by omega)]
theorem mixW_full (t : Qt) (b j : Nat) (h : j < t.nw) : mixW t b t.nw j = (t.turn b).world j := if_pos h
theorem mixW_zero (t : Qt) (b : Nat) : mixW t b 0 = t.world := funext fun j => if_neg (Nat.not_lt_zero j)
/-- a row of facts, cell by cell -/
def FR (cur : Array Value) (n : Nat) (f : Nat → Fact) : Prop := ∀ i, i < n → cur[i * 5]? = some (.int .i64 (f i).from_) ∧ cur[i * 5 + 1]? = some (.int .i64 (f i).many) ∧ cur[i * 5 + 2]? = some (.int .i64 (f i).to_) ∧ cur[i * 5 + 3]? = some (.int .i64 (f i).low) ∧ cur[i * 5 + 4]? = some (.int .i64 (f i).high)
theorem FR.of_row {cur : Array Value} {n : Nat} {f : Nat → Fact} (h : cur.toList.take (n * 5) = factL f n) : FR cur n f := by
  intro i hi
  have hg := fun (c : Nat) (hc : c < 5) => catL_get (f := fun i => [Value.int .i64 (f i).from_, .int .i64 (f i).many, .int .i64 (f i).to_, .int .i64 (f i).low, .int .i64 (f i).high]) (s := 5) (fun _ => rfl) hc n hi
  have key : ∀ c, c < 5 → cur[i * 5 + c]? = ([Value.int .i64 (f i).from_, .int .i64 (f i).many, .int .i64 (f i).to_, .int .i64 (f i).low, .int .i64 (f i).high])[c]? := fun c hc => by
    have h1 : (cur.toList.take (n * 5))[i * 5 + c]? = cur.toList[i * 5 + c]? := List.getElem?_take_of_lt (by omega)
    rw [← Array.getElem?_toList, ← h1, h]
    exact hg c hc
  exact ⟨key 0 (by decide), key 1 (by decide), key 2 (by decide), key 3 (by decide), key 4 (by decide)⟩
theorem sne {cur : Array Value} {j p : Nat} {v : Value} (h : j ≠ p) : (cur.setIfInBounds j v)[p]? = cur[p]? := Array.getElem?_setIfInBounds_ne h
theorem ssame {cur : Array Value} {j : Nat} {v : Value} (h : j < cur.size) : (cur.setIfInBounds j v)[j]? = some v := by rw [Array.getElem?_setIfInBounds_self, if_pos h]
theorem FR.put {cur : Array Value} {n : Nat} {f : Nat → Fact} (h : FR cur n f) {k : Nat} (hk : k < n) (x : Fact) :
    FR (((((cur.setIfInBounds (k * 5) (.int .i64 x.from_)).setIfInBounds (k * 5 + 1) (.int .i64 x.many)).setIfInBounds (k * 5 + 2) (.int .i64 x.to_)).setIfInBounds (k * 5 + 3) (.int .i64 x.low)).setIfInBounds (k * 5 + 4) (.int .i64 x.high)) n (fun j => if j = k then x else f j) := by
  intro i hi
  have hs : k * 5 + 4 < cur.size := (Array.getElem?_eq_some_iff.1 (h k hk).2.2.2.2).1
  by_cases e : i = k
  · subst e
    simp only [if_true]
    refine ⟨?_, ?_, ?_, ?_, ?_⟩
    · rw [sne (by omega), sne (by omega), sne (by omega), sne (by omega), ssame (by omega)]
    · rw [sne (by omega), sne (by omega), sne (by omega), ssame (by simp only [Array.size_setIfInBounds]; omega)]
    · rw [sne (by omega), sne (by omega), ssame (by simp only [Array.size_setIfInBounds]; omega)]
    · rw [sne (by omega), ssame (by simp only [Array.size_setIfInBounds]; omega)]
    · rw [ssame (by simp only [Array.size_setIfInBounds]; omega)]
  · simp only [if_neg e]
    obtain ⟨h0, h1, h2, h3, h4⟩ := h i hi
    refine ⟨?_, ?_, ?_, ?_, ?_⟩ <;> rw [sne (by omega), sne (by omega), sne (by omega), sne (by omega), sne (by omega)] <;> assumption
theorem FR.congr {cur : Array Value} {n : Nat} {f g : Nat → Fact} (h : FR cur n f) (e : ∀ i, i < n → f i = g i) : FR cur n g := fun i hi => by rw [← e i hi]; exact h i hi
theorem FR.at {w : World} {g n : Nat} {T : TypeId} {cur : Array Value} {f : Nat → Fact} (hb : TBox w g T cur) (h : FR cur n f) : FactsAt w (some ⟨g, 0, none⟩) n f :=
  .inr ⟨g, 0, rfl, hb.lt, fun i hi => by
    obtain ⟨h0, h1, h2, h3, h4⟩ := h i hi
    refine ⟨?_, ?_, ?_, ?_, ?_⟩
    · simpa using (hb.cell (i * 5)).trans h0
    · simpa using (hb.cell (i * 5 + 1)).trans h1
    · simpa using (hb.cell (i * 5 + 2)).trans h2
    · simpa using (hb.cell (i * 5 + 3)).trans h3
    · simpa using (hb.cell (i * 5 + 4)).trans h4⟩
def mixF (t : Qt) (b k j : Nat) : Fact := if j < k then t.fact ((j + b) % t.nf) else t.fact j
theorem mixF_step (t : Qt) (b k j : Nat) : (if j = k then t.fact ((k + b) % t.nf) else mixF t b k j) = mixF t b (k + 1) j := by
  unfold mixF
  by_cases h : j = k
  · subst h
    rw [if_pos rfl, if_pos (Nat.lt_succ_self _)]
  · rw [if_neg h]
    by_cases h1 : j < k
    · rw [if_pos h1, if_pos (by omega)]
    · rw [if_neg h1, if_neg (by omega)]
theorem mixF_zero (t : Qt) (b : Nat) : mixF t b 0 = t.fact := funext fun j => if_neg (Nat.not_lt_zero j)
/-- the worlds of a town, alone -/
def Qt.bare (t : Qt) (f : Nat → Wd) : Qt := ⟨t.wells, t.nw, f, 0, t.fact⟩
theorem worlds_at {w : World} {base : Nat} {A : Option Addr} {c n : Nat} {us : List Value} {t : Qt} {f : Nat → Wd} (hn : t.nw = n) (h : w.ownsRow base 81 1 (.slice A n c) n us) (hr : WsRows w f n us) : WorldsAt w A n f := by
  subst hn
  have hc : CopyAt w base (.slice A t.nw c) (.slice none 0 0) (t.bare f) := ⟨⟨us, h, hr⟩, World.ownsRow_nil _ _ _ _⟩
  obtain ⟨A1, c1, A2, c2, e1, _, hq⟩ := hc.qat
  simp only [Value.slice.injEq] at e1
  obtain ⟨rfl, _, rfl⟩ := e1
  exact hq.worlds
theorem turn_at {w : World} {Aw Af : Option Addr} {t : Qt} {b : Nat} (h1 : WorldsAt w Aw t.nw (mixW t b t.nw)) (h2 : FactsAt w Af t.nf (mixF t b t.nf)) : QAt w Aw Af (t.turn b) := by
  refine ⟨?_, ?_⟩
  · show WorldsAt w Aw t.nw (t.turn b).world
    rcases h1 with h1 | ⟨g, o, e, hlt, hc⟩
    · exact .inl h1
    · refine .inr ⟨g, o, e, hlt, fun i hi => ?_⟩
      rw [← mixW_full t b i hi]
      exact hc i hi
  · show FactsAt w Af t.nf (t.turn b).fact
    rcases h2 with h2 | ⟨g, o, e, hlt, hc⟩
    · exact .inl h2
    · refine .inr ⟨g, o, e, hlt, fun i hi => ?_⟩
      rw [show (t.turn b).fact i = mixF t b t.nf i from (if_pos hi).symm]
      exact hc i hi
theorem turn_small {t : Qt} (h : t.Fits) (ok : t.Ok) (b : Nat) : (t.turn b).Small := by
  have h0 := ok.nw
  refine ⟨by have := h.1; show t.nw ≤ _; omega, by have := h.2.1; show t.nf ≤ _; omega, fun i hi j hj => ?_⟩
  have hm : (i + b) % t.nw < t.nw := Nat.mod_lt _ (by have hi : i < t.nw := hi; omega)
  have := (h.2.2 _ hm).2 j hj
  show (t.world ((i + b) % t.nw)).len j ≤ _
  omega
end Go.Proofs.YtchhodikgllgnaaDoor
/- The statement QuarrelsOrder: the walk. Conditions: what is read fits into memory; the listed table holds what it holds. -/
namespace Go.Proofs.YtchhodikgllgnaaDoor
open Go.RowKit Go.Sort
theorem TBox.ne {w : World} {b b' : Nat} {t t' : TypeId} {cs cs' : Array Value} (h : TBox w b t cs) (h' : TBox w b' t' cs') (hne : t ≠ t') : b ≠ b' := fun e => by
  subst e
  have := (show w.heap[b]? = some (Obj.cells cs t (0, 0)) from h).symm.trans (show w.heap[b]? = some (Obj.cells cs' t' (0, 0)) from h')
  injection this with this
  injection this with _ this _
  exact hne this
set_option maxHeartbeats 8000000 in
set_option maxRecDepth 100000 in
theorem quarrelsOrder_any (Aw Af : Option Addr) (cw cf : Nat) (t : Qt) (bn fp fq law : Int) (Ad : Option Addr) (nd cd : Nat) (w : World) (hf : t.Fits) (hT : QAt w Aw Af t) (hB : TabAt w) :
    Calls Tryd.prog 16 #[.agg #[.int .i64 t.wells, .slice Aw t.nw cw, .slice Af t.nf cf], .int .i64 bn, .agg #[.int .i64 fp, .int .i64 fq, .int .i64 law, .slice Ad nd cd]] w fun e w' => e = .returned (.bool true) ∧ Below w.heap.size w w' := by
  have HT0 := Lib.hid hT
  have HTB0 := Lib.hid hB
  have HD0 := Lib.hid (Below.refl w.heap.size w)
  have HS := Lib.hid hf.small
  have HF := Lib.hid hf
  clear hT hB hf
  go_enter Tryd.func16, Tryd.ntmps16
  go_wp2_with fail
  refine (ready_any _ _ _ _ t _ HS.out (HT0.out.mono (bAlloc (bAlloc (Below.refl _ _) (.cells #[.int .i64 t.wells, .slice Aw t.nw cw, .slice Af t.nf cf] 25)) (.cells #[.int .i64 fp, .int .i64 fq, .int .i64 law, .slice Ad nd cd] 45)))).mono ?_
  rintro e w1 ⟨rfl, hb⟩
  have hB1 : Below w.heap.size w w1 := bTrans (bAlloc (bAlloc (Below.refl _ _) (.cells #[.int .i64 t.wells, .slice Aw t.nw cw, .slice Af t.nf cf] 25)) (.cells #[.int .i64 fp, .int .i64 fq, .int .i64 law, .slice Ad nd cd] 45)) hb
  have HD1 := Lib.hid (bTrans HD0.out hB1)
  have HT1 := Lib.hid (HT0.out.mono hB1)
  have HTB1 := Lib.hid (HTB0.out.mono hB1)
  have T1 := Lib.hid (show TBox w1 w.heap.size 25 #[.int .i64 t.wells, .slice Aw t.nw cw, .slice Af t.nf cf] from by have := ((TBox.new w #[.int .i64 t.wells, .slice Aw t.nw cw, .slice Af t.nf cf] 25).mono (bAlloc (Below.refl _ _) (.cells #[.int .i64 fp, .int .i64 fq, .int .i64 law, .slice Ad nd cd] 45))).mono hb; simpa using this)
  have X1 := Lib.hid (show TBox w1 (w.heap.size + 1) 45 #[.int .i64 fp, .int .i64 fq, .int .i64 law, .slice Ad nd cd] from by have := ((TBox.new (w.alloc (.cells #[.int .i64 t.wells, .slice Aw t.nw cw, .slice Af t.nf cf] 25)) #[.int .i64 fp, .int .i64 fq, .int .i64 law, .slice Ad nd cd] 45).mono (Below.refl _ _)).mono hb; simpa using this)
  clear hb hB1 HD0 HT0 HTB0
  obtain ⟨T_0, T_1, T_2, T_l⟩ := T1.out.c3
  obtain ⟨X_0, X_1, X_2, X_3, X_l⟩ := X1.out.c4
  obtain ⟨bq, hbq⟩ : ∃ b, t.readyB = b := ⟨_, rfl⟩
  rw [hbq]
  have HR1 := Lib.hid hbq
  clear hbq
  cases bq
  case false =>
    go_wp2_with fail
    refine (works5_any _ HTB1.out).mono ?_
    rintro e w99 ⟨rfl, hb99⟩
    go_wp2_with fail
    go_ret
    exact ⟨rfl, bTrans HD1.out hb99⟩
  have HOK := Lib.hid (readyB_ok HR1.out).1
  by_cases hb0 : bn < 0
  case pos =>
    go_wp2_with fail
    refine (works5_any _ HTB1.out).mono ?_
    rintro e w99 ⟨rfl, hb99⟩
    go_wp2_with fail
    go_ret
    exact ⟨rfl, bTrans HD1.out hb99⟩
  by_cases hb1 : bn > 100
  case pos =>
    go_wp2_with fail
    refine (works5_any _ HTB1.out).mono ?_
    rintro e w99 ⟨rfl, hb99⟩
    go_wp2_with fail
    go_ret
    exact ⟨rfl, bTrans HD1.out hb99⟩
  go_wp2_with fail
  refine (isWell5_any _ _ _ _ t fp _).mono ?_
  rintro e w2 ⟨rfl, hb⟩
  have hB2 : Below w1.heap.size w1 w2 := bTrans (Below.refl _ _) hb
  have HD2 := Lib.hid (bTrans HD1.out hB2)
  have HT2 := Lib.hid (HT1.out.mono hB2)
  have HTB2 := Lib.hid (HTB1.out.mono hB2)
  have T2 := Lib.hid (T1.out.mono hB2)
  have X2 := Lib.hid (X1.out.mono hB2)
  clear hb hB2 HD1 HT1 HTB1 T1 T_0 T_1 T_2 T_l X1 X_0 X_1 X_2 X_3 X_l
  obtain ⟨T_0, T_1, T_2, T_l⟩ := T2.out.c3
  obtain ⟨X_0, X_1, X_2, X_3, X_l⟩ := X2.out.c4
  obtain ⟨bq, hbq⟩ : ∃ b, t.wellB fp = b := ⟨_, rfl⟩
  rw [hbq]
  have HW1 := Lib.hid hbq
  clear hbq
  cases bq
  case false =>
    go_wp2_with fail
    refine (works5_any _ HTB2.out).mono ?_
    rintro e w99 ⟨rfl, hb99⟩
    go_wp2_with fail
    go_ret
    exact ⟨rfl, bTrans HD2.out hb99⟩
  go_wp2_with fail
  refine (isWell5_any _ _ _ _ t fq _).mono ?_
  rintro e w3 ⟨rfl, hb⟩
  have hB3 : Below w2.heap.size w2 w3 := bTrans (Below.refl _ _) hb
  have HD3 := Lib.hid (bTrans HD2.out hB3)
  have HT3 := Lib.hid (HT2.out.mono hB3)
  have HTB3 := Lib.hid (HTB2.out.mono hB3)
  have T3 := Lib.hid (T2.out.mono hB3)
  have X3 := Lib.hid (X2.out.mono hB3)
  clear hb hB3 HD2 HT2 HTB2 T2 T_0 T_1 T_2 T_l X2 X_0 X_1 X_2 X_3 X_l
  obtain ⟨T_0, T_1, T_2, T_l⟩ := T3.out.c3
  obtain ⟨X_0, X_1, X_2, X_3, X_l⟩ := X3.out.c4
  obtain ⟨bq, hbq⟩ : ∃ b, t.wellB fq = b := ⟨_, rfl⟩
  rw [hbq]
  have HW2 := Lib.hid hbq
  clear hbq
  cases bq
  case false =>
    go_wp2_with fail
    refine (works5_any _ HTB3.out).mono ?_
    rintro e w99 ⟨rfl, hb99⟩
    go_wp2_with fail
    go_ret
    exact ⟨rfl, bTrans HD3.out hb99⟩
  go_wp2_with fail
  refine (isLaw5_any law _).mono ?_
  rintro e w4 ⟨rfl, hb⟩
  have hB4 : Below w3.heap.size w3 w4 := bTrans (Below.refl _ _) hb
  have HD4 := Lib.hid (bTrans HD3.out hB4)
  have HT4 := Lib.hid (HT3.out.mono hB4)
  have HTB4 := Lib.hid (HTB3.out.mono hB4)
  have T4 := Lib.hid (T3.out.mono hB4)
  have X4 := Lib.hid (X3.out.mono hB4)
  clear hb hB4 HD3 HT3 HTB3 T3 T_0 T_1 T_2 T_l X3 X_0 X_1 X_2 X_3 X_l
  obtain ⟨T_0, T_1, T_2, T_l⟩ := T4.out.c3
  obtain ⟨X_0, X_1, X_2, X_3, X_l⟩ := X4.out.c4
  obtain ⟨bq, hbq⟩ : ∃ b, inR law 0 99 = b := ⟨_, rfl⟩
  rw [hbq]
  have HLW := Lib.hid hbq
  clear hbq
  cases bq
  case false =>
    go_wp2_with fail
    refine (works5_any _ HTB4.out).mono ?_
    rintro e w99 ⟨rfl, hb99⟩
    go_wp2_with fail
    go_ret
    exact ⟨rfl, bTrans HD4.out hb99⟩
  have hw1 := inR_iff.1 ((wellB_ok HOK.out fp).symm.trans HW1.out)
  have hw2 := inR_iff.1 ((wellB_ok HOK.out fq).symm.trans HW2.out)
  obtain ⟨p, rfl⟩ : ∃ p : Nat, fp = (p : Int) := ⟨fp.toNat, by omega⟩
  obtain ⟨q, rfl⟩ : ∃ q : Nat, fq = (q : Int) := ⟨fq.toNat, by omega⟩
  have HP := Lib.hid (show (p : Int) < t.wells by omega)
  have HQQ := Lib.hid (show (q : Int) < t.wells by omega)
  clear hw1 hw2
  obtain ⟨b, rfl⟩ : ∃ b : Nat, bn = (b : Int) := ⟨bn.toNat, by omega⟩
  have HB1 := Lib.hid (show b ≤ 100 by omega)
  have hb2 : ¬ 100 < b := by omega
  go_wp2_with fail
  refine (copy5_any _ _ _ _ t _ HF.out HT4.out).mono ?_
  rintro e w5 ⟨⟨vW, vF, rfl, hc⟩, hb⟩
  obtain ⟨Bw, dw, Bf, df, rfl, rfl, _⟩ := hc.qat
  have HC := Lib.hid hc
  have HBC := Lib.hid hb
  have hB5 : Below w4.heap.size w4 w5 := bTrans (Below.refl _ _) hb
  have HD5 := Lib.hid (bTrans HD4.out hB5)
  have HT5 := Lib.hid (HT4.out.mono hB5)
  have HTB5 := Lib.hid (HTB4.out.mono hB5)
  have T5 := Lib.hid (T4.out.mono hB5)
  have X5 := Lib.hid (X4.out.mono hB5)
  clear hb hB5 T_0 T_1 T_2 T_l X_0 X_1 X_2 X_3 X_l
  obtain ⟨T_0, T_1, T_2, T_l⟩ := T5.out.c3
  obtain ⟨X_0, X_1, X_2, X_3, X_l⟩ := X5.out.c4
  clear hc
  obtain ⟨us, huo, hur⟩ := HC.out.worlds
  have HUO := Lib.hid huo
  have HUR := Lib.hid hur
  clear huo hur
  go_wp2_with fail
  go_loopw [8] (fun s wr => ∃ (k : Nat) (us : List Value), k ≤ t.nw ∧ s = .int .i64 (k : Int) ∧ wr.ownsRow w4.heap.size 81 1 (.slice Bw t.nw dw) t.nw us ∧ WsRows wr (mixW t b k) t.nw us ∧ wr.ownsRow w4.heap.size 53 5 (.slice Bf t.nf df) t.nf (factL t.fact t.nf) ∧ TBox wr w5.heap.size 25 #[.int .i64 t.wells, .slice Bw t.nw dw, .slice Bf t.nf df] ∧ Below w4.heap.size w4 wr) (fun s _ => t.nw - (intOf s).toNat)
  case atStart => exact ⟨0, us, Nat.zero_le _, rfl, HUO.out.alloc _, (by rw [mixW_zero]; exact HUR.out.mono (bAlloc (Below.refl _ _) _)), HC.out.facts.alloc _, TBox.new _ _ _, bTrans HBC.out (bAlloc (Below.refl _ _) _)⟩
  case round =>
    obtain ⟨k, us, hk, rfl, ho, hr, hfa, hbx, hb⟩ := hrel
    have HO := Lib.hid ho
    clear ho
    have HR := Lib.hid hr
    clear hr
    have HFA := Lib.hid hfa
    clear hfa
    have HOX := Lib.hid hbx
    clear hbx
    clear T_0 T_1 T_2 T_l X_0 X_1 X_2 X_3 X_l
    have hB6 : Below w4.heap.size w4 wr := bTrans (Below.refl _ _) hb
    have HD6 := Lib.hid (bTrans HD4.out hB6)
    have HT6 := Lib.hid (HT4.out.mono hB6)
    have HTB6 := Lib.hid (HTB4.out.mono hB6)
    have HRL6 := Lib.hid ((show Upto w4 wr from hb))
    have T6 := Lib.hid (T4.out.mono hB6)
    have X6 := Lib.hid (X4.out.mono hB6)
    clear hb hB6
    obtain ⟨T_0, T_1, T_2, T_l⟩ := T6.out.c3
    obtain ⟨X_0, X_1, X_2, X_3, X_l⟩ := X6.out.c4
    obtain ⟨O_0, O_1, O_2, O_l⟩ := HOX.out.c3
    by_cases hlt : k < t.nw
    case pos =>
      obtain ⟨gw, hgw⟩ : ∃ gw, Bw = some ⟨gw, 0, none⟩ := by
        obtain ⟨gw, cap, e⟩ := owns_form HO.out (by omega)
        simp only [Value.slice.injEq] at e
        exact ⟨gw, e.1⟩
      subst hgw
      obtain ⟨m, hm⟩ : ∃ m, (k + b) % t.nw = m := ⟨_, rfl⟩
      have hmn : m < t.nw := by rw [← hm]; exact Nat.mod_lt _ (by omega)
      have HM := Lib.hid hm
      have n6 : t.nw ≤ 6 := by have := HOK.out.nw; omega
      have hwr : IntKind.i64.wrap ((k : Int) + (b : Int)) = ((k + b : Nat) : Int) := IntWalk.i64_in _ (by have := HB1.out; omega)
      have hrem : Int.tmod ((k + b : Nat) : Int) (t.nw : Int) = (m : Int) := by rw [← hm]; rfl
      have hrem2 : Int.tmod ((k : Int) + (b : Int)) (t.nw : Int) = (m : Int) := by rw [← Int.natCast_add]; exact hrem
      have hwm : IntKind.i64.wrap (m : Int) = (m : Int) := IntWalk.i64_in _ (by omega)
      have hn0 : ¬ t.nw = 0 := by omega
      have hn0i : ¬ (t.nw : Int) = 0 := by omega
      have hn0b : ((t.nw : Int) == 0) = false := by simp; omega
      have hm1 : (m : Int) < (t.nw : Int) := by omega
      have hm0 : (0 : Int) ≤ (m : Int) := by omega
      have k1 : (k : Int) < (t.nw : Int) := by omega
      have k0 : (0 : Int) ≤ (k : Int) := by omega
      clear hm
      rcases HT6.out.worlds with h0 | ⟨bA, oA, hA, hbl, hcell⟩
      · exact absurd h0 hn0
      obtain ⟨A', c', c0, hrow, hlen⟩ := hcell m hmn
      subst hA
      obtain ⟨x, hx⟩ : ∃ x, t.world m = x := ⟨_, rfl⟩
      rw [hx] at c0 hrow hlen
      have HXE := Lib.hid (show t.world ((k + b) % t.nw) = x by rw [HM.out, hx])
      have HXF := Lib.hid (show x.Fits by have := HF.out.2.2 m hmn; rw [hx] at this; exact this)
      have HROW := Lib.hid hrow
      clear hcell hrow hx
      go_wp2_with fail
      refine wp_region_stir 16 [.const (.pointer (some ⟨w5.heap.size, 1, none⟩)), .const (.slice (some ⟨gw, 0, none⟩) t.nw dw), .const (.int .i64 (k : Int)), .const (.pointer (some ⟨w.heap.size, 1, none⟩)), .const (.slice (some ⟨bA, oA, none⟩) t.nw cw), .const (.int .i64 (k : Int)), .const (.int .i64 (b : Int)), .const (.int .i64 ((k + b : Nat) : Int)), .const (.pointer (some ⟨w.heap.size, 1, none⟩)), .const (.slice (some ⟨bA, oA, none⟩) t.nw cw), .const (.int .i64 (t.nw : Int)), .const (.int .i64 (m : Int)), .const (.pointer (some ⟨bA, oA + m, none⟩)), .const (.agg #[.slice A' x.n c']), .held (wdS x.n) (wdR x), .const (.pointer (some ⟨gw, k, none⟩))]
        (by kernel_rfl) (by kernel_rfl) rfl ⟨trivial, trivial, trivial, trivial, trivial, trivial, trivial, trivial, trivial, trivial, trivial, trivial, trivial, trivial, wdG, trivial, trivial⟩ (crossAll_no _ _ _ _ trivial) ?_
      iterate 14 refine wpStir_const (by go_simp) ?_
      simp only [Act.put, List.setIfInBounds_toArray, List.set_cons_succ, List.set_cons_zero]
      refine wpStir_held rfl (fun w' hb hd => ?_) (fun v hv => ?_)
      · clear hd
        have hcw := Lib.hid (copyWorld5_any A' c' x w' HXF.out (HROW.out.mono hb))
        go_simp
        refine hcw.out.mono ?_
        rintro e w'' ⟨⟨v, vs, rfl, ho, hr⟩, hb'⟩
        obtain ⟨A3, c3', rfl, h3⟩ := RowK.own ho
        refine ⟨_, rfl, hb', ⟨_, _, rfl⟩, fun u e => ?_⟩
        obtain rfl : Value.slice A3 x.n c3' = u := by simpa using e
        exact ⟨A3, c3', vs, rfl, h3, hr⟩
      obtain ⟨A3, c4, rfl⟩ := hv
      refine wpStir_const (by go_simp) ?_
      simp only [Act.put, List.setIfInBounds_toArray, List.set_cons_succ, List.set_cons_zero]
      refine wpStir_end (fun w55 hb5 hd => ?_)
      have h1 : WdK w55 (.slice A3 x.n c4) x := hd.1 _ rfl
      clear hd
      have ho5 := owns_below HO.out hb5
      obtain ⟨hge, cur, hcur, htk⟩ := owns_box ho5
      have hox5 := HOX.out.mono hb5
      have hne := hcur.ne hox5 (by decide)
      have huk : us[k]? = some (us[k]'(by rw [HR.out.1]; exact hlt)) := List.getElem?_eq_getElem _
      have hck : w55.cell? ⟨gw, k, none⟩ = some (us[k]'(by rw [HR.out.1]; exact hlt)) := by
        rw [hcur.cell k, ← huk, ← htk, Nat.mul_one, List.getElem?_take_of_lt hlt, Array.getElem?_toList]
      have hcf := hcur.frozen k
      have hcl := hcur.lt
      obtain ⟨w20, hw20⟩ : ∃ w20, w55.setCell ⟨gw, k, none⟩ (.slice A3 x.n c4) = w20 := ⟨_, rfl⟩
      have hkp : Kept [3, 40] w55 w20 := hw20 ▸ Kept.set hcur (by decide) k _
      have HO2 := Lib.hid (show w20.ownsRow w4.heap.size 81 1 (.slice (some ⟨gw, 0, none⟩) t.nw dw) t.nw (us.set k (.slice A3 x.n c4)) from hw20 ▸ owns_put ho5 k (.slice A3 x.n c4))
      have HR2 := Lib.hid (show WsRows w20 (mixW t b (k + 1)) t.nw (us.set k (.slice A3 x.n c4)) from ((((HR.out.mono hb5).put (k := k) h1 (by have := HXF.out.1; omega)).congr fun j _ => (by rw [← HXE.out]; exact mixW_step t b k j)).kept hkp (by simp) (by simp)))
      have HFA2 := Lib.hid (show w20.ownsRow w4.heap.size 53 5 (.slice Bf t.nf df) t.nf (factL t.fact t.nf) from hw20 ▸ owns_setT (owns_below HFA.out hb5) hcur (by decide) k _)
      have HX2 := Lib.hid (show TBox w20 w5.heap.size 25 #[.int .i64 t.wells, .slice (some ⟨gw, 0, none⟩) t.nw dw, .slice Bf t.nf df] from hw20 ▸ hox5.other hne k _)
      have HBL := Lib.hid (show Below w4.heap.size w4 w20 from hw20 ▸ Below.setCell (p := ⟨gw, k, none⟩) (bTrans (show Below w4.heap.size w4 wr from HRL6.out) hb5) hge _)
      have HW20 := Lib.hid hw20
      clear h1 ho5 hox5 hne huk hkp hw20 hb5 htk hcur
      simp only [Act.put, List.setIfInBounds_toArray, List.set_cons_succ, List.set_cons_zero, List.drop_succ_cons, List.drop_zero]
      refine wpList_skip rfl rfl (w'' := w20) (by rw [← HW20.out]; go_simp) ?_
      go_wp2_with fail
      go_roundw
      case rel =>
        first
        | exact ⟨k + 1, _, by omega, by go_num, HO2.out, HR2.out, HFA2.out, HX2.out, HBL.out⟩
        | ((repeat apply Exists.intro)
           refine ⟨⟨k + 1, _, by omega, ?_, HO2.out, HR2.out, HFA2.out, HX2.out, HBL.out⟩, rfl⟩
           go_num)
      case measure => simp [intOf]; omega
    have hkn : k = t.nw := by omega
    subst hkn
    have k1 : ¬ (t.nw : Int) < (t.nw : Int) := by omega
    go_wp2_with fail
    obtain ⟨wl, hwl⟩ : ∃ x, x = wr := ⟨_, rfl⟩
    subst hwl
    go_loopw [9] (fun s wr => ∃ k : Nat, k ≤ t.nf ∧ s = .int .i64 (k : Int) ∧ wr.ownsRow w4.heap.size 81 1 (.slice Bw t.nw dw) t.nw us ∧ WsRows wr (mixW t b t.nw) t.nw us ∧ (0 < t.nf → ∃ gf cur, Bf = some ⟨gf, 0, none⟩ ∧ w4.heap.size ≤ gf ∧ TBox wr gf 53 cur ∧ FR cur t.nf (mixF t b k)) ∧ TBox wr w5.heap.size 25 #[.int .i64 t.wells, .slice Bw t.nw dw, .slice Bf t.nf df] ∧ Below w4.heap.size w4 wr) (fun s _ => t.nf - (intOf s).toNat)
    case atStart =>
      refine ⟨0, Nat.zero_le _, rfl, HO.out, HR.out, fun h0 => ?_, HOX.out, HRL6.out⟩
      obtain ⟨gf, cap, e⟩ := owns_form HFA.out h0
      simp only [Value.slice.injEq] at e
      obtain ⟨e, _, _⟩ := e
      have hfa := HFA.out
      rw [e] at hfa
      obtain ⟨hge, cur, hcur, htk⟩ := owns_box hfa
      exact ⟨gf, cur, e, hge, hcur, by rw [mixF_zero]; exact FR.of_row htk⟩
    case round =>
      clear HO HR HFA HOX O_0 O_1 O_2 O_l
      obtain ⟨k, hk, rfl, ho, hr, hfr, hbx, hb⟩ := hrel
      have HO := Lib.hid ho
      clear ho
      have HR := Lib.hid hr
      clear hr
      have HFR := Lib.hid hfr
      clear hfr
      have HOX := Lib.hid hbx
      clear hbx
      clear T_0 T_1 T_2 T_l X_0 X_1 X_2 X_3 X_l
      have hB7 : Below w4.heap.size w4 wr := bTrans (Below.refl _ _) hb
      have HD7 := Lib.hid (bTrans HD4.out hB7)
      have HT7 := Lib.hid (HT4.out.mono hB7)
      have HTB7 := Lib.hid (HTB4.out.mono hB7)
      have HRL7 := Lib.hid ((show Upto w4 wr from hb))
      have T7 := Lib.hid (T4.out.mono hB7)
      have X7 := Lib.hid (X4.out.mono hB7)
      clear hb hB7
      obtain ⟨T_0, T_1, T_2, T_l⟩ := T7.out.c3
      obtain ⟨X_0, X_1, X_2, X_3, X_l⟩ := X7.out.c4
      by_cases hlt : k < t.nf
      case pos =>
        obtain ⟨m, hm⟩ : ∃ m, (k + b) % t.nf = m := ⟨_, rfl⟩
        have hmn : m < t.nf := by rw [← hm]; exact Nat.mod_lt _ (by omega)
        have HM := Lib.hid hm
        have n6 : t.nf ≤ 6 := by have := HOK.out.nf; omega
        have hwr : IntKind.i64.wrap ((k : Int) + (b : Int)) = ((k + b : Nat) : Int) := IntWalk.i64_in _ (by have := HB1.out; omega)
        have hrem : Int.tmod ((k + b : Nat) : Int) (t.nf : Int) = (m : Int) := by rw [← hm]; rfl
        have hrem2 : Int.tmod ((k : Int) + (b : Int)) (t.nf : Int) = (m : Int) := by rw [← Int.natCast_add]; exact hrem
        have hwm : IntKind.i64.wrap (m : Int) = (m : Int) := IntWalk.i64_in _ (by omega)
        have hn0 : ¬ t.nf = 0 := by omega
        have hn0i : ¬ (t.nf : Int) = 0 := by omega
        have hn0b : ((t.nf : Int) == 0) = false := by simp; omega
        have hm1 : (m : Int) < (t.nf : Int) := by omega
        have hm0 : (0 : Int) ≤ (m : Int) := by omega
        have k1 : (k : Int) < (t.nf : Int) := by omega
        have k0 : (0 : Int) ≤ (k : Int) := by omega
        clear hm
        obtain ⟨gf, cur, hBf, hge, hcur, hfr⟩ := HFR.out (by omega)
        subst hBf
        obtain ⟨O_0, O_1, O_2, O_l⟩ := HOX.out.c3
        rcases HT7.out.facts with h0 | ⟨bA, oA, hA, hbl, hcell⟩
        · exact absurd h0 hn0
        obtain ⟨c0, c1, c2, c3, c4⟩ := hcell m hmn
        subst hA
        obtain ⟨y, hy⟩ : ∃ y, t.fact m = y := ⟨_, rfl⟩
        rw [hy] at c0 c1 c2 c3 c4
        have HYE := Lib.hid (show t.fact ((k + b) % t.nf) = y by rw [HM.out, hy])
        have HFRR := Lib.hid hfr
        have HCUR := Lib.hid hcur
        clear hcell hy hfr hcur
        go_wp2_with fail
        refine wp_region_stir 15 [.const (.pointer (some ⟨w5.heap.size, 2, none⟩)), .const (.slice (some ⟨gf, 0, none⟩) t.nf df), .const (.int .i64 (k : Int)), .const (.pointer (some ⟨w.heap.size, 2, none⟩)), .const (.slice (some ⟨bA, oA, none⟩) t.nf cf), .const (.int .i64 (k : Int)), .const (.int .i64 (b : Int)), .const (.int .i64 ((k + b : Nat) : Int)), .const (.pointer (some ⟨w.heap.size, 2, none⟩)), .const (.slice (some ⟨bA, oA, none⟩) t.nf cf), .const (.int .i64 (t.nf : Int)), .const (.int .i64 (m : Int)), .const (.pointer (some ⟨bA, oA + m * 5, none⟩)), .const (.agg #[.int .i64 y.from_, .int .i64 y.many, .int .i64 y.to_, .int .i64 y.low, .int .i64 y.high]), .const (.pointer (some ⟨gf, k * 5, none⟩))]
          (by kernel_rfl) (by kernel_rfl) rfl ⟨trivial, trivial, trivial, trivial, trivial, trivial, trivial, trivial, trivial, trivial, trivial, trivial, trivial, trivial, trivial, trivial⟩ (crossAll_no _ _ _ _ trivial) ?_
        iterate 15 refine wpStir_const (by go_simp) ?_
        refine wpStir_end (fun w55 hb5 hd => ?_)
        clear hd
        have hcur := HCUR.out.mono hb5
        have hox5 := HOX.out.mono hb5
        have hne := hcur.ne hox5 (by decide)
        obtain ⟨f0, f1, f2, f3, f4⟩ := HFRR.out k hlt
        have d0 := (hcur.cell (k * 5)).trans f0
        have d1 := (hcur.cell (k * 5 + 1)).trans f1
        have d2 := (hcur.cell (k * 5 + 2)).trans f2
        have d3 := (hcur.cell (k * 5 + 3)).trans f3
        have d4 := (hcur.cell (k * 5 + 4)).trans f4
        have z0 := hcur.frozen (k * 5)
        have z1 := hcur.frozen (k * 5 + 1)
        have z2 := hcur.frozen (k * 5 + 2)
        have z3 := hcur.frozen (k * 5 + 3)
        have z4 := hcur.frozen (k * 5 + 4)
        have hcl := hcur.lt
        have t1 := hcur.set (k * 5) (.int .i64 y.from_)
        have t2 := t1.set (k * 5 + 1) (.int .i64 y.many)
        have t3 := t2.set (k * 5 + 2) (.int .i64 y.to_)
        have t4 := t3.set (k * 5 + 3) (.int .i64 y.low)
        have t5 := t4.set (k * 5 + 4) (.int .i64 y.high)
        have kk1 : Kept [3, 40, 81] w55 _ := Kept.set hcur (by decide) (k * 5) (.int .i64 y.from_)
        have kk2 : Kept [3, 40, 81] _ _ := Kept.set t1 (by decide) (k * 5 + 1) (.int .i64 y.many)
        have kk3 : Kept [3, 40, 81] _ _ := Kept.set t2 (by decide) (k * 5 + 2) (.int .i64 y.to_)
        have kk4 : Kept [3, 40, 81] _ _ := Kept.set t3 (by decide) (k * 5 + 3) (.int .i64 y.low)
        have kk5 : Kept [3, 40, 81] _ _ := Kept.set t4 (by decide) (k * 5 + 4) (.int .i64 y.high)
        have kk6 := (((kk1.trans kk2).trans kk3).trans kk4).trans kk5
        have ox := ((((hox5.other hne (k * 5) (.int .i64 y.from_)).other hne (k * 5 + 1) (.int .i64 y.many)).other hne (k * 5 + 2) (.int .i64 y.to_)).other hne (k * 5 + 3) (.int .i64 y.low)).other hne (k * 5 + 4) (.int .i64 y.high)
        have bl : Below w4.heap.size w4 (((((w55.setCell ⟨gf, k * 5, none⟩ (.int .i64 y.from_)).setCell ⟨gf, k * 5 + 1, none⟩ (.int .i64 y.many)).setCell ⟨gf, k * 5 + 2, none⟩ (.int .i64 y.to_)).setCell ⟨gf, k * 5 + 3, none⟩ (.int .i64 y.low)).setCell ⟨gf, k * 5 + 4, none⟩ (.int .i64 y.high)) := Below.setCell (p := ⟨gf, _, none⟩) (Below.setCell (p := ⟨gf, _, none⟩) (Below.setCell (p := ⟨gf, _, none⟩) (Below.setCell (p := ⟨gf, _, none⟩) (Below.setCell (p := ⟨gf, _, none⟩) (bTrans (show Below w4.heap.size w4 wr from HRL7.out) hb5) hge _) hge _) hge _) hge _) hge _
        obtain ⟨w20, hw20⟩ : ∃ w20, (((((w55.setCell ⟨gf, k * 5, none⟩ (.int .i64 y.from_)).setCell ⟨gf, k * 5 + 1, none⟩ (.int .i64 y.many)).setCell ⟨gf, k * 5 + 2, none⟩ (.int .i64 y.to_)).setCell ⟨gf, k * 5 + 3, none⟩ (.int .i64 y.low)).setCell ⟨gf, k * 5 + 4, none⟩ (.int .i64 y.high)) = w20 := ⟨_, rfl⟩
        rw [hw20] at t5 kk6 ox bl
        have HO2 := Lib.hid (owns_kept (owns_below HO.out hb5) kk6 (by simp))
        have HR2 := Lib.hid ((HR.out.mono hb5).kept kk6 (by simp) (by simp))
        have HX2 := Lib.hid ox
        have HBL := Lib.hid bl
        have HT5 := Lib.hid t5
        have HF2 := Lib.hid (show FR _ t.nf (mixF t b (k + 1)) from (HFRR.out.put hlt y).congr fun j _ => (by rw [← HYE.out]; exact mixF_step t b k j))
        have HW20 := Lib.hid hw20
        clear t1 t2 t3 t4 t5 kk1 kk2 kk3 kk4 kk5 kk6 ox bl hw20 hox5 hne f0 f1 f2 f3 f4 hb5 hcur
        simp only [Act.put, List.setIfInBounds_toArray, List.set_cons_succ, List.set_cons_zero, List.drop_succ_cons, List.drop_zero]
        refine wpList_skip rfl rfl (w'' := w20) (by rw [← HW20.out]; go_simp) ?_
        go_wp2_with fail
        go_roundw
        case rel =>
          first
          | exact ⟨k + 1, by omega, by go_num, HO2.out, HR2.out, fun _ => ⟨gf, _, rfl, hge, HT5.out, HF2.out⟩, HX2.out, HBL.out⟩
          | ((repeat apply Exists.intro)
             refine ⟨⟨k + 1, by omega, ?_, HO2.out, HR2.out, fun _ => ⟨gf, _, rfl, hge, HT5.out, HF2.out⟩, HX2.out, HBL.out⟩, rfl⟩
             go_num)
        case measure => simp [intOf]; omega
      have hkn : k = t.nf := by omega
      subst hkn
      have k1 : ¬ (t.nf : Int) < (t.nf : Int) := by omega
      have hq : QAt wr Bw Bf (t.turn b) := turn_at (worlds_at rfl HO.out HR.out) (by
        rcases Nat.eq_zero_or_pos t.nf with h0 | h0
        · exact .inl h0
        · obtain ⟨gf, cur, rfl, _, hcur, hfr⟩ := HFR.out h0
          exact FR.at hcur hfr)
      have hox : TBox wr w5.heap.size 25 #[.int .i64 (t.turn b).wells, .slice Bw (t.turn b).nw dw, .slice Bf (t.turn b).nf df] := HOX.out
      have HA := Lib.hid (turn_ok HOK.out b)
      have hso := turn_small HF.out HOK.out b
      have hll : (t.turn b).leftO.length = t.leftO.length := by rw [leftO_ok HOK.out, leftO_ok (HOK.out.turn b), leftL_turn_len]
      have hok2 := HOK.out.turn b
      obtain ⟨o, ho⟩ : ∃ o, t.turn b = o := ⟨_, rfl⟩
      rw [ho] at hq hox HA hso hll hok2
      have HOX2 := Lib.hid hox
      have HSO := Lib.hid hso
      have HOK2 := Lib.hid hok2
      have HQ7 := Lib.hid hq
      clear hq hox hso ho HO HR HFR HOX hok2
      have O7 := HOX2
      clear HOX2
      obtain ⟨O_0, O_1, O_2, O_l⟩ := O7.out.c3
      obtain ⟨n1, hn1⟩ : ∃ n, t.leftO.length = n := ⟨_, rfl⟩
      rw [hn1] at hll
      have HN1 := Lib.hid hn1
      have HN2 := Lib.hid hll
      clear hn1 hll
      go_wp2_with fail
      refine (leftQ_any Aw Af cw cf t _ HS.out HT7.out HTB7.out).mono ?_
      rintro e w8 ⟨ho, hb⟩
      obtain ⟨v, rfl, ⟨A1, c1, rfl, _⟩, _⟩ := ho.lst
      rw [HN1.out, Qt.err_ok HOK.out]
      have hB8 : Below wr.heap.size wr w8 := bTrans (Below.refl _ _) hb
      have HD8 := Lib.hid (bTrans HD7.out hB8)
      have HT8 := Lib.hid (HT7.out.mono hB8)
      have HTB8 := Lib.hid (HTB7.out.mono hB8)
      have HRL8 := Lib.hid (HRL7.out.mono hB8)
      have HQ8 := Lib.hid (HQ7.out.mono hB8)
      have T8 := Lib.hid (T7.out.mono hB8)
      have X8 := Lib.hid (X7.out.mono hB8)
      have O8 := Lib.hid (O7.out.mono hB8)
      clear hb hB8 HD7 HT7 HTB7 HRL7 HQ7 T7 T_0 T_1 T_2 T_l X7 X_0 X_1 X_2 X_3 X_l O7 O_0 O_1 O_2 O_l
      obtain ⟨T_0, T_1, T_2, T_l⟩ := T8.out.c3
      obtain ⟨X_0, X_1, X_2, X_3, X_l⟩ := X8.out.c4
      obtain ⟨O_0, O_1, O_2, O_l⟩ := O8.out.c3
      clear ho
      go_wp2_with fail
      refine (leftQ_any Bw Bf dw df o _ HSO.out HQ8.out HTB8.out).mono ?_
      rintro e w9 ⟨ho, hb⟩
      obtain ⟨v, rfl, ⟨A2, c2, rfl, _⟩, _⟩ := ho.lst
      rw [HN2.out, Qt.err_ok HOK2.out]
      have hB9 : Below w8.heap.size w8 w9 := bTrans (Below.refl _ _) hb
      have HD9 := Lib.hid (bTrans HD8.out hB9)
      have HT9 := Lib.hid (HT8.out.mono hB9)
      have HTB9 := Lib.hid (HTB8.out.mono hB9)
      have HRL9 := Lib.hid (HRL8.out.mono hB9)
      have HQ9 := Lib.hid (HQ8.out.mono hB9)
      have T9 := Lib.hid (T8.out.mono hB9)
      have X9 := Lib.hid (X8.out.mono hB9)
      have O9 := Lib.hid (O8.out.mono hB9)
      clear hb hB9 HD8 HT8 HTB8 HRL8 HQ8 T8 T_0 T_1 T_2 T_l X8 X_0 X_1 X_2 X_3 X_l O8 O_0 O_1 O_2 O_l
      obtain ⟨T_0, T_1, T_2, T_l⟩ := T9.out.c3
      obtain ⟨X_0, X_1, X_2, X_3, X_l⟩ := X9.out.c4
      obtain ⟨O_0, O_1, O_2, O_l⟩ := O9.out.c3
      clear ho
      go_wp2_with fail
      obtain ⟨er, her⟩ : ∃ v, t.knowErr (t.wellB (p : Int) && t.wellB (q : Int)) = v := ⟨_, rfl⟩
      obtain ⟨b1, hb1⟩ : ∃ v, (t.betweenV (p : Int) (q : Int)).1 = v := ⟨_, rfl⟩
      obtain ⟨b2, hb2⟩ : ∃ v, (t.betweenV (p : Int) (q : Int)).2 = v := ⟨_, rfl⟩
      have HE1 := Lib.hid (And.intro her (And.intro hb1 hb2))
      have HE2 := Lib.hid (show o.knowErr (o.wellB (p : Int) && o.wellB (q : Int)) = er ∧ (o.betweenV (p : Int) (q : Int)).1 = b1 ∧ (o.betweenV (p : Int) (q : Int)).2 = b2 by rw [← HA.out.know, ← HA.out.wellB, ← HA.out.wellB, ← (HA.out.between HP.out HQQ.out).1]; exact ⟨her, hb1, hb2⟩)
      have hds : diffS b1 b2 b1 b2 = false := by simp [diffS]
      clear her hb1 hb2
      refine (betweenQ_any Aw Af cw cf t (p : Int) (q : Int) _ HS.out HT9.out HTB9.out).mono ?_
      rintro e w10 ⟨rfl, hb⟩
      rw [HE1.out.2.1, HE1.out.2.2, HE1.out.1]
      have hB10 : Below w9.heap.size w9 w10 := bTrans (Below.refl _ _) hb
      have HD10 := Lib.hid (bTrans HD9.out hB10)
      have HT10 := Lib.hid (HT9.out.mono hB10)
      have HTB10 := Lib.hid (HTB9.out.mono hB10)
      have HRL10 := Lib.hid (HRL9.out.mono hB10)
      have HQ10 := Lib.hid (HQ9.out.mono hB10)
      have T10 := Lib.hid (T9.out.mono hB10)
      have X10 := Lib.hid (X9.out.mono hB10)
      have O10 := Lib.hid (O9.out.mono hB10)
      clear hb hB10 HD9 HT9 HTB9 HRL9 HQ9 T9 T_0 T_1 T_2 T_l X9 X_0 X_1 X_2 X_3 X_l O9 O_0 O_1 O_2 O_l
      obtain ⟨T_0, T_1, T_2, T_l⟩ := T10.out.c3
      obtain ⟨X_0, X_1, X_2, X_3, X_l⟩ := X10.out.c4
      obtain ⟨O_0, O_1, O_2, O_l⟩ := O10.out.c3
      go_wp2_with fail
      refine (betweenQ_any Bw Bf dw df o (p : Int) (q : Int) _ HSO.out (HQ10.out.mono (bAlloc (Below.refl _ _) (.cells #[.int .i64 b1, .int .i64 b2] 47))) (HTB10.out.mono (bAlloc (Below.refl _ _) (.cells #[.int .i64 b1, .int .i64 b2] 47)))).mono ?_
      rintro e w11 ⟨rfl, hb⟩
      rw [HE2.out.2.1, HE2.out.2.2, HE2.out.1]
      have hB11 : Below w10.heap.size w10 w11 := bTrans (bAlloc (Below.refl _ _) (.cells #[.int .i64 b1, .int .i64 b2] 47)) hb
      have HD11 := Lib.hid (bTrans HD10.out hB11)
      have HT11 := Lib.hid (HT10.out.mono hB11)
      have HTB11 := Lib.hid (HTB10.out.mono hB11)
      have HRL11 := Lib.hid (HRL10.out.mono hB11)
      have HQ11 := Lib.hid (HQ10.out.mono hB11)
      have T11 := Lib.hid (T10.out.mono hB11)
      have X11 := Lib.hid (X10.out.mono hB11)
      have O11 := Lib.hid (O10.out.mono hB11)
      have S111 := Lib.hid (show TBox w11 w10.heap.size 47 #[.int .i64 b1, .int .i64 b2] from by have := ((TBox.new w10 #[.int .i64 b1, .int .i64 b2] 47).mono (Below.refl _ _)).mono hb; simpa using this)
      clear hb hB11 HD10 HT10 HTB10 HRL10 HQ10 T10 T_0 T_1 T_2 T_l X10 X_0 X_1 X_2 X_3 X_l O10 O_0 O_1 O_2 O_l
      obtain ⟨T_0, T_1, T_2, T_l⟩ := T11.out.c3
      obtain ⟨X_0, X_1, X_2, X_3, X_l⟩ := X11.out.c4
      obtain ⟨O_0, O_1, O_2, O_l⟩ := O11.out.c3
      obtain ⟨S1_0, S1_1, S1_l⟩ := S111.out.c2
      go_wp2_with fail
      obtain ⟨eh, heh⟩ : ∃ v, t.knowErr (t.wellB (p : Int) && t.wellB (q : Int) && inR law 0 99) = v := ⟨_, rfl⟩
      obtain ⟨kh, hkh⟩ : ∃ v, (if eh = 0 then harmK (t.between p q) law else 0) = v := ⟨_, rfl⟩
      have HH1 := Lib.hid (And.intro heh hkh)
      have HH2 := Lib.hid (show o.knowErr (o.wellB (p : Int) && o.wellB (q : Int) && inR law 0 99) = eh ∧ (if eh = 0 then harmK (o.between p q) law else 0) = kh by rw [← HA.out.know, ← HA.out.wellB, ← HA.out.wellB, ← (HA.out.between HP.out HQQ.out).2]; exact ⟨heh, hkh⟩)
      clear heh hkh
      refine (harmsQ_any Aw Af cw cf t (p : Int) (q : Int) law _ HS.out (HT11.out.mono (bAlloc (Below.refl _ _) (.cells #[.int .i64 b1, .int .i64 b2] 47))) (HTB11.out.mono (bAlloc (Below.refl _ _) (.cells #[.int .i64 b1, .int .i64 b2] 47)))).mono ?_
      rintro e w12 ⟨rfl, hb⟩
      rw [Int.toNat_natCast, Int.toNat_natCast, HH1.out.1, HH1.out.2]
      have hB12 : Below w11.heap.size w11 w12 := bTrans (bAlloc (Below.refl _ _) (.cells #[.int .i64 b1, .int .i64 b2] 47)) hb
      have HD12 := Lib.hid (bTrans HD11.out hB12)
      have HT12 := Lib.hid (HT11.out.mono hB12)
      have HTB12 := Lib.hid (HTB11.out.mono hB12)
      have HRL12 := Lib.hid (HRL11.out.mono hB12)
      have HQ12 := Lib.hid (HQ11.out.mono hB12)
      have T12 := Lib.hid (T11.out.mono hB12)
      have X12 := Lib.hid (X11.out.mono hB12)
      have O12 := Lib.hid (O11.out.mono hB12)
      have S112 := Lib.hid (S111.out.mono hB12)
      have S212 := Lib.hid (show TBox w12 w11.heap.size 47 #[.int .i64 b1, .int .i64 b2] from by have := ((TBox.new w11 #[.int .i64 b1, .int .i64 b2] 47).mono (Below.refl _ _)).mono hb; simpa using this)
      clear hb hB12 HD11 HT11 HTB11 HRL11 HQ11 T11 T_0 T_1 T_2 T_l X11 X_0 X_1 X_2 X_3 X_l O11 O_0 O_1 O_2 O_l S111 S1_0 S1_1 S1_l
      obtain ⟨T_0, T_1, T_2, T_l⟩ := T12.out.c3
      obtain ⟨X_0, X_1, X_2, X_3, X_l⟩ := X12.out.c4
      obtain ⟨O_0, O_1, O_2, O_l⟩ := O12.out.c3
      obtain ⟨S1_0, S1_1, S1_l⟩ := S112.out.c2
      obtain ⟨S2_0, S2_1, S2_l⟩ := S212.out.c2
      go_wp2_with fail
      refine (harmsQ_any Bw Bf dw df o (p : Int) (q : Int) law _ HSO.out HQ12.out HTB12.out).mono ?_
      rintro e w13 ⟨rfl, hb⟩
      rw [Int.toNat_natCast, Int.toNat_natCast, HH2.out.1, HH2.out.2]
      have hB13 : Below w12.heap.size w12 w13 := bTrans (Below.refl _ _) hb
      have HD13 := Lib.hid (bTrans HD12.out hB13)
      have HT13 := Lib.hid (HT12.out.mono hB13)
      have HTB13 := Lib.hid (HTB12.out.mono hB13)
      have HRL13 := Lib.hid (HRL12.out.mono hB13)
      have HQ13 := Lib.hid (HQ12.out.mono hB13)
      have T13 := Lib.hid (T12.out.mono hB13)
      have X13 := Lib.hid (X12.out.mono hB13)
      have O13 := Lib.hid (O12.out.mono hB13)
      have S113 := Lib.hid (S112.out.mono hB13)
      have S213 := Lib.hid (S212.out.mono hB13)
      clear hb hB13 HD12 HT12 HTB12 HRL12 HQ12 T12 T_0 T_1 T_2 T_l X12 X_0 X_1 X_2 X_3 X_l O12 O_0 O_1 O_2 O_l S112 S1_0 S1_1 S1_l S212 S2_0 S2_1 S2_l
      obtain ⟨T_0, T_1, T_2, T_l⟩ := T13.out.c3
      obtain ⟨X_0, X_1, X_2, X_3, X_l⟩ := X13.out.c4
      obtain ⟨O_0, O_1, O_2, O_l⟩ := O13.out.c3
      obtain ⟨S1_0, S1_1, S1_l⟩ := S113.out.c2
      obtain ⟨S2_0, S2_1, S2_l⟩ := S213.out.c2
      go_wp2_with fail
      refine (alikeS_any Aw Af Bw Bf cw cf dw df t o p q law Ad nd cd _ HS.out HSO.out HT13.out HQ13.out HTB13.out HA.out HP.out HQQ.out).mono ?_
      rintro e w14 ⟨rfl, hb⟩
      have hB14 : Below w13.heap.size w13 w14 := bTrans (Below.refl _ _) hb
      have HD14 := Lib.hid (bTrans HD13.out hB14)
      have HT14 := Lib.hid (HT13.out.mono hB14)
      have HTB14 := Lib.hid (HTB13.out.mono hB14)
      have HRL14 := Lib.hid (HRL13.out.mono hB14)
      have HQ14 := Lib.hid (HQ13.out.mono hB14)
      have T14 := Lib.hid (T13.out.mono hB14)
      have X14 := Lib.hid (X13.out.mono hB14)
      have O14 := Lib.hid (O13.out.mono hB14)
      have S114 := Lib.hid (S113.out.mono hB14)
      have S214 := Lib.hid (S213.out.mono hB14)
      clear hb hB14 HD13 HT13 HTB13 HRL13 HQ13 T13 T_0 T_1 T_2 T_l X13 X_0 X_1 X_2 X_3 X_l O13 O_0 O_1 O_2 O_l S113 S1_0 S1_1 S1_l S213 S2_0 S2_1 S2_l
      obtain ⟨T_0, T_1, T_2, T_l⟩ := T14.out.c3
      obtain ⟨X_0, X_1, X_2, X_3, X_l⟩ := X14.out.c4
      obtain ⟨O_0, O_1, O_2, O_l⟩ := O14.out.c3
      obtain ⟨S1_0, S1_1, S1_l⟩ := S114.out.c2
      obtain ⟨S2_0, S2_1, S2_l⟩ := S214.out.c2
      go_wp2_with fail
      refine (works5_any _ HTB14.out).mono ?_
      rintro e w99 ⟨rfl, hb99⟩
      go_wp2_with fail
      go_ret
      exact ⟨rfl, bTrans HD14.out hb99⟩
end Go.Proofs.YtchhodikgllgnaaDoor
