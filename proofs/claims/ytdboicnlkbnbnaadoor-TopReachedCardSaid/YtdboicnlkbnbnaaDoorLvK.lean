/- One round of Spans, of the slopes: it cuts the spans of both wells of a slope. Conditions: the cells that it reads. -/
import Derived.Test.YtdboicnlkbnbnaaDoorLvI
namespace Go.Proofs.YtdboicnlkbnbnaaDoor
open Go.RowKit Go.Sort
/-- whether two spans differ -/
def diffS (a b c d : Int) : Bool := decide (¬ (a = c ∧ b = d))
theorem neqSpan (w : World) (a b c d : Int) : (binOp .neq 43 (.agg #[.int .i64 a, .int .i64 b]) (.agg #[.int .i64 c, .int .i64 d])).run Tryd.prog w = .ok (.bool (diffS a b c d)) w := by
  by_cases h1 : a = c
  · by_cases h2 : b = d
    · subst h1 h2; simp [go_sem, diffS]
    · subst h1; have : (b == d) = false := by simp [h2]
      simp [go_sem, diffS, h2, this]
  · have : (a == c) = false := by simp [h1]
    simp [go_sem, diffS, h1, this]
attribute [go_sem ↓] neqSpan
/-- a code that ends at its end -/
def onlyN (R : Act → World → Prop) : Exit → Act → World → Prop
  | .normal, a, w => R a w
  | _, _, _ => False
theorem onlyN_of {Q : Exit → Act → World → Prop} {e : Exit} {a : Act} {w : World} (h : onlyN (fun a w => Q .normal a w) e a w) : Q e a w := by
  cases e <;> first | exact h | exact h.elim
/-- the loops of a code, in the order of the text -/
def loopsOf : Code → List Code
  | .loop c => c :: loopsOf c
  | .seq a b => loopsOf a ++ loopsOf b
  | .block _ c => loopsOf c
  | .scope c => loopsOf c
  | .cond _ a b => loopsOf a ++ loopsOf b
  | _ => []
noncomputable def spansRound : Code := (((Tryd.f33.body.map loopsOf).getD [])[4]?).getD .skip
set_option maxHeartbeats 8000000 in
set_option maxRecDepth 100000 in
theorem spans_round (b o cl n k p q nl : Nat) (ch : Bool) (lo hi x y u v x2 y2 x3 y3 : Int) (l' : Sp) (w wr : World) (u0 u2 u3 u5 u6 u7 u9 u11 u12 u13 u14 u15 u16 u17 u18 u19 u20 u21 u22 u23 u24 u25 u26 u27 u28 u29 u30 u31 u32 u33 u34 u35 u36 u37 u38 u39 u40 u41 u42 u43 u44 u45 u46 u47 u48 u49 u50 u51 u52 u53 u54 u55 u56 u57 u58 u59 u60 u61 u62 u63 u64 u65 u66 u67 u68 u69 u70 u71 u72 u73 u74 u75 u76 u77 u78 u79 u80 u81 u82 u83 u84 u85 u86 u87 u88 u89 u90 u91 u92 u93 u94 u95 u96 u97 u98 u99 u100 u101 u102 u103 u104 u105 u106 u107 u108 u109 u110 u111 u112 u113 u114 u115 u116 u117 u118 u119 u120 u121 u122 u123 u124 u125 u126 u127 u128 u129 u130 u131 u132 u133 u134 u135 u136 u137 u138 u139 u140 u141 u142 u143 u144 u145 u146 u147 : Value) (R : Act → World → Prop)
    (hn6 : n ≤ 6) (nl8 : nl ≤ 8) (cT : wr.cell? ⟨w.heap.size, 2, none⟩ = some (.slice (some ⟨b, o, none⟩) nl cl)) (hy11 : w.heap.size < wr.heap.size) (hx11 : w.heap.size + 1 < wr.heap.size) (hb : b < wr.heap.size) (k1 : (k : Int) < (nl : Int))
    (c0 : wr.cell? ⟨b, o + k * 4, none⟩ = some (.int .i64 p)) (c1 : wr.cell? ⟨b, o + k * 4 + 1, none⟩ = some (.int .i64 q)) (c2 : wr.cell? ⟨b, o + k * 4 + 2, none⟩ = some (.int .i64 lo)) (c3 : wr.cell? ⟨b, o + k * 4 + 3, none⟩ = some (.int .i64 hi))
    (d0 : wr.cell? ⟨w.heap.size + 1, p * 2, none⟩ = some (.int .i64 x)) (d1 : wr.cell? ⟨w.heap.size + 1, p * 2 + 1, none⟩ = some (.int .i64 y)) (d2 : wr.cell? ⟨w.heap.size + 1, q * 2, none⟩ = some (.int .i64 u)) (d3 : wr.cell? ⟨w.heap.size + 1, q * 2 + 1, none⟩ = some (.int .i64 v))
    (HCB : Hid (∀ w : World, Calls Tryd.prog 42 #[.agg #[.int .i64 u, .int .i64 v], .agg #[.int .i64 (x + lo), .int .i64 (y + hi)]] w fun e w' => e = .returned (.agg #[.int .i64 x2, .int .i64 y2]) ∧ Below w.heap.size w w'))
    (HCA : Hid (∀ w : World, Calls Tryd.prog 42 #[.agg #[.int .i64 x, .int .i64 y], .agg #[.int .i64 (u - hi), .int .i64 (v - lo)]] w fun e w' => e = .returned (.agg #[.int .i64 x3, .int .i64 y3]) ∧ Below w.heap.size w w'))
    (HS11 : Hid (SpAt wr (w.heap.size + 1) n l')) (HPN : Hid (p < n)) (HQN : Hid (q < n)) (HPQ : Hid (p ≠ q))
    (p1 : (p : Int) < (n : Int)) (p0 : (0 : Int) ≤ (p : Int)) (q1 : (q : Int) < (n : Int)) (q0 : (0 : Int) ≤ (q : Int))
    (e1 : IntKind.i64.wrap (x + lo) = x + lo) (e2 : IntKind.i64.wrap (y + hi) = y + hi) (e3 : IntKind.i64.wrap (u - hi) = u - hi) (e4 : IntKind.i64.wrap (v - lo) = v - lo)
    (hQ : ∀ (z11 z12 z13 z72 z73 z74 z75 z76 z77 z78 z79 z80 z81 z82 z83 z84 z85 z86 z87 z88 z89 z90 z91 z92 z93 z94 z95 z96 z97 z98 z99 z100 z101 z102 z103 z104 z105 z106 z107 z108 z109 z110 z111 z112 z113 z114 z115 z116 z117 z118 z119 z120 z121 z122 z123 z124 z125 z126 z127 z128 z129 z130 z131 z132 z133 z134 z135 z136 z137 z138 z139 z140 z141 z142 z143 z144 z145 z146 : Value) (ch' : Bool), ch' = (ch || (diffS x3 y3 x y || diffS x2 y2 u v)) → ∀ w', SpAt w' (w.heap.size + 1) n (setS (setS l' q (x2, y2)) p (x3, y3)) → Below (w.heap.size + 1) wr w' → R ⟨#[u0, .pointer (some ⟨w.heap.size, 0, none⟩), u2, u3, .slice (some ⟨w.heap.size + 1, 0, none⟩) n n, u5, u6, u7, .bool ch', u9, .int .i64 (k + 1), z11, z12, z13, u14, u15, u16, u17, u18, u19, u20, u21, u22, u23, u24, u25, u26, u27, u28, u29, u30, u31, u32, u33, u34, u35, u36, u37, u38, u39, u40, u41, u42, u43, u44, u45, u46, u47, u48, u49, u50, u51, u52, u53, u54, u55, u56, u57, u58, u59, u60, u61, u62, u63, u64, u65, u66, u67, u68, u69, u70, u71, z72, z73, z74, z75, z76, z77, z78, z79, z80, z81, z82, z83, z84, z85, z86, z87, z88, z89, z90, z91, z92, z93, z94, z95, z96, z97, z98, z99, z100, z101, z102, z103, z104, z105, z106, z107, z108, z109, z110, z111, z112, z113, z114, z115, z116, z117, z118, z119, z120, z121, z122, z123, z124, z125, z126, z127, z128, z129, z130, z131, z132, z133, z134, z135, z136, z137, z138, z139, z140, z141, z142, z143, z144, z145, z146, u147], []⟩ w') :
    Code.wp Tryd.prog spansRound (onlyN R) ⟨#[u0, .pointer (some ⟨w.heap.size, 0, none⟩), u2, u3, .slice (some ⟨w.heap.size + 1, 0, none⟩) n n, u5, u6, u7, .bool ch, u9, .int .i64 k, u11, u12, u13, u14, u15, u16, u17, u18, u19, u20, u21, u22, u23, u24, u25, u26, u27, u28, u29, u30, u31, u32, u33, u34, u35, u36, u37, u38, u39, u40, u41, u42, u43, u44, u45, u46, u47, u48, u49, u50, u51, u52, u53, u54, u55, u56, u57, u58, u59, u60, u61, u62, u63, u64, u65, u66, u67, u68, u69, u70, u71, u72, u73, u74, u75, u76, u77, u78, u79, u80, u81, u82, u83, u84, u85, u86, u87, u88, u89, u90, u91, u92, u93, u94, u95, u96, u97, u98, u99, u100, u101, u102, u103, u104, u105, u106, u107, u108, u109, u110, u111, u112, u113, u114, u115, u116, u117, u118, u119, u120, u121, u122, u123, u124, u125, u126, u127, u128, u129, u130, u131, u132, u133, u134, u135, u136, u137, u138, u139, u140, u141, u142, u143, u144, u145, u146, u147], []⟩ wr := by
  have HQ := Lib.hid hQ
  clear hQ
  conv => arg 2; whnf
  go_wp2_with fail
  go_region
  · skip
    go_wp2_with fail
    refine wp_region_vals 17 [.slice (some ⟨w.heap.size + 1, 0, none⟩) n n, .pointer (some ⟨wr.heap.size, 1, none⟩), .int .i64 q, .agg #[.int .i64 u, .int .i64 v], .pointer (some ⟨wr.heap.size + 1, 0, none⟩), .int .i64 x, .pointer (some ⟨wr.heap.size, 2, none⟩), .int .i64 lo, .int .i64 (x + lo), .pointer (some ⟨wr.heap.size + 1, 1, none⟩), .int .i64 y, .pointer (some ⟨wr.heap.size, 3, none⟩), .int .i64 hi, .int .i64 (y + hi), .agg #[.int .i64 (x + lo), .int .i64 (y + hi)], .agg #[.int .i64 x2, .int .i64 y2], .pointer (some ⟨w.heap.size + 1, q * 2, none⟩)] (by kernel_rfl) (by kernel_rfl) rfl ?_
    simp only [List.map_cons, List.map_nil]
    iterate 15 refine wpStir_const (by go_simp) ?_
    refine wpStir_call rfl (fun w' hb hd => ?_) ?_
    · clear hd
      go_simp
      refine (HCB.out _).mono ?_
      rintro e w'' ⟨he, hb'⟩
      exact ⟨he, hb'⟩
    refine wpStir_const (by go_simp) ?_
    refine wpStir_end (fun w7 hb7 hd => ?_)
    clear hd
    simp only [List.drop_succ_cons, List.drop_zero]
    simp only [Act.put, List.setIfInBounds_toArray, List.set_cons_succ, List.set_cons_zero]
    have hB7 := bTrans (show Below wr.heap.size wr _ from by (repeat (first | (with_reducible exact Below.refl _ _) | (with_reducible refine bAlloc ?_ _) | (with_reducible refine bDrew ?_) | (with_reducible refine bGrow ?_ _ _) | (with_reducible refine bSet ?_ ?_ _; (first | exact Nat.le_refl _ | exact Nat.le_add_right _ _ | (simp; omega))) | (with_reducible refine bTrans ?_ (by assumption))))) hb7
    have HB7 := Lib.hid hB7
    have hS7 := HS11.out.mono hB7
    obtain ⟨g2, g3⟩ := hS7.cell q HQN.out
    have f2 := hS7.frz (q * 2)
    have f3 := hS7.frz (q * 2 + 1)
    have hx7 := hS7.lt
    obtain ⟨bc7, bf7⟩ := bcell hb7
    have hz7 : wr.heap.size + 1 + 1 + 1 ≤ w7.heap.size := by have := hb7.size; simpa using this
    have X11 : BoxAt w7 wr.heap.size [.int .i64 p, .int .i64 q, .int .i64 lo, .int .i64 hi] := BoxAt.four (by omega) ((bc7 _ _ (by simp <;> omega)).trans (by simp [go_sem])) ((bc7 _ _ (by simp <;> omega)).trans (by simp [go_sem])) ((bc7 _ _ (by simp <;> omega)).trans (by simp [go_sem])) ((bc7 _ _ (by simp <;> omega)).trans (by simp [go_sem]))
    have X12 : BoxAt w7 (wr.heap.size + 1) [.int .i64 x, .int .i64 y] := BoxAt.two (by omega) ((bc7 _ _ (by simp <;> omega)).trans (by simp [go_sem])) ((bc7 _ _ (by simp <;> omega)).trans (by simp [go_sem]))
    have X13 : BoxAt w7 (wr.heap.size + 1 + 1) [.int .i64 u, .int .i64 v] := BoxAt.two (by omega) ((bc7 _ _ (by simp <;> omega)).trans (by simp [go_sem])) ((bc7 _ _ (by simp <;> omega)).trans (by simp [go_sem]))
    have HS7 := Lib.hid (hS7.set HQN.out x2 y2)
    clear hB7 hb7 hS7 bc7 bf7 d0 d1 d2 d3 c0 c1 c2 c3
    go_wp2_with fail
    obtain ⟨w77, hw77⟩ : ∃ w77, w77 = (w7.setCell ⟨w.heap.size + 1, q * 2, none⟩ (.int .i64 x2)).setCell ⟨w.heap.size + 1, q * 2 + 1, none⟩ (.int .i64 y2) := ⟨_, rfl⟩
    have Y11 := (X11.set (b := w.heap.size + 1) (by omega) (q * 2) (.int .i64 x2)).set (b := w.heap.size + 1) (by omega) (q * 2 + 1) (.int .i64 y2)
    have Y12 := (X12.set (b := w.heap.size + 1) (by omega) (q * 2) (.int .i64 x2)).set (b := w.heap.size + 1) (by omega) (q * 2 + 1) (.int .i64 y2)
    have Y13 := (X13.set (b := w.heap.size + 1) (by omega) (q * 2) (.int .i64 x2)).set (b := w.heap.size + 1) (by omega) (q * 2 + 1) (.int .i64 y2)
    have HL7 := Lib.hid (Below.setCell (p := ⟨w.heap.size + 1, q * 2 + 1, none⟩) (Below.setCell (p := ⟨w.heap.size + 1, q * 2, none⟩) (HB7.out.mono (Nat.le_of_lt hx11)) (Nat.le_refl _) (.int .i64 x2)) (Nat.le_refl _) (.int .i64 y2))
    rw [← hw77] at Y11 Y12 Y13 HS7 HL7 ⊢
    clear hw77 f2 f3 g2 g3 X11 X12 X13 hx7 hz7 cT
    have HY11 := Lib.hid Y11
    have HY12 := Lib.hid Y12
    have HY13 := Lib.hid Y13
    have b0 := Y11.cell 0 _ rfl
    have b2 := Y11.cell 2 _ rfl
    have b3 := Y11.cell 3 _ rfl
    have b4 := Y12.cell 0 _ rfl
    have b5 := Y12.cell 1 _ rfl
    have b6 := Y13.cell 0 _ rfl
    have b7 := Y13.cell 1 _ rfl
    have t1 := Y11.lt
    have t2 := Y12.lt
    have t3 := Y13.lt
    clear Y11 Y12 Y13
    refine wp_region_vals 17 [.slice (some ⟨w.heap.size + 1, 0, none⟩) n n, .pointer (some ⟨wr.heap.size, 0, none⟩), .int .i64 p, .agg #[.int .i64 x, .int .i64 y], .pointer (some ⟨wr.heap.size + 1 + 1, 0, none⟩), .int .i64 u, .pointer (some ⟨wr.heap.size, 3, none⟩), .int .i64 hi, .int .i64 (u - hi), .pointer (some ⟨wr.heap.size + 1 + 1, 1, none⟩), .int .i64 v, .pointer (some ⟨wr.heap.size, 2, none⟩), .int .i64 lo, .int .i64 (v - lo), .agg #[.int .i64 (u - hi), .int .i64 (v - lo)], .agg #[.int .i64 x3, .int .i64 y3], .pointer (some ⟨w.heap.size + 1, p * 2, none⟩)] (by kernel_rfl) (by kernel_rfl) rfl ?_
    simp only [List.map_cons, List.map_nil]
    iterate 15 refine wpStir_const (by go_simp) ?_
    refine wpStir_call rfl (fun w' hb hd => ?_) ?_
    · clear hd
      go_simp
      refine (HCA.out _).mono ?_
      rintro e w'' ⟨he, hb'⟩
      exact ⟨he, hb'⟩
    refine wpStir_const (by go_simp) ?_
    refine wpStir_end (fun w8 hb8 hd => ?_)
    clear hd
    simp only [List.drop_succ_cons, List.drop_zero]
    simp only [Act.put, List.setIfInBounds_toArray, List.set_cons_succ, List.set_cons_zero]
    have hS8 := HS7.out.mono hb8
    obtain ⟨g0, g1⟩ := hS8.cell p HPN.out
    have f0 := hS8.frz (p * 2)
    have f1 := hS8.frz (p * 2 + 1)
    have hx8 := hS8.lt
    have HS8' := Lib.hid (hS8.set HPN.out x3 y3)
    have HL8' := Lib.hid (Below.setCell (p := ⟨w.heap.size + 1, p * 2 + 1, none⟩) (Below.setCell (p := ⟨w.heap.size + 1, p * 2, none⟩) (HL7.out.trans (hb8.mono (Nat.le_of_lt HS7.out.lt))) (Nat.le_refl _) (.int .i64 x3)) (Nat.le_refl _) (.int .i64 y3))
    have HZ11 := Lib.hid (((HY11.out.mono hb8).set (b := w.heap.size + 1) (by omega) (p * 2) (.int .i64 x3)).set (b := w.heap.size + 1) (by omega) (p * 2 + 1) (.int .i64 y3))
    have HZ12 := Lib.hid (((HY12.out.mono hb8).set (b := w.heap.size + 1) (by omega) (p * 2) (.int .i64 x3)).set (b := w.heap.size + 1) (by omega) (p * 2 + 1) (.int .i64 y3))
    have HZ13 := Lib.hid (((HY13.out.mono hb8).set (b := w.heap.size + 1) (by omega) (p * 2) (.int .i64 x3)).set (b := w.heap.size + 1) (by omega) (p * 2 + 1) (.int .i64 y3))
    clear hS8 hb8 e1 e2 e3 e4 b0 b2 b3 b4 b5 b6 b7 t1 t2 t3 HY11 HY12 HY13
    go_wp2_with fail
    obtain ⟨w9, hw9⟩ : ∃ w9, w9 = (w8.setCell ⟨w.heap.size + 1, p * 2, none⟩ (.int .i64 x3)).setCell ⟨w.heap.size + 1, p * 2 + 1, none⟩ (.int .i64 y3) := ⟨_, rfl⟩
    rw [← hw9] at HS8' HL8' HZ11 HZ12 HZ13 ⊢
    clear hw9 f0 f1 hx8 g0 g1
    have g0 := (HS8'.out.cell p HPN.out).1
    have g1 := (HS8'.out.cell p HPN.out).2
    have g2 := (HS8'.out.cell q HQN.out).1
    have g3 := (HS8'.out.cell q HQN.out).2
    rw [setS_at] at g0 g1
    rw [setS_ne _ _ (fun e => HPQ.out e.symm), setS_at] at g2 g3
    have b0 := HZ11.out.cell 0 _ rfl
    have b1 := HZ11.out.cell 1 _ rfl
    have b2 := HZ12.out.cell 0 _ rfl
    have b3 := HZ12.out.cell 1 _ rfl
    have b4 := HZ13.out.cell 0 _ rfl
    have b5 := HZ13.out.cell 1 _ rfl
    have t1 := HZ11.out.lt
    have t2 := HZ12.out.lt
    have t3 := HZ13.out.lt
    have t4 := HS8'.out.lt
    clear HZ11 HZ12 HZ13
    cases ch
    · cases hA : diffS x3 y3 x y
      · skip
        refine wp_region_vals 20 [.bool false, .bool false, .slice (some ⟨w.heap.size + 1, 0, none⟩) n n, .pointer (some ⟨wr.heap.size, 0, none⟩), .int .i64 p, .pointer (some ⟨w.heap.size + 1, p * 2, none⟩), .agg #[.int .i64 x3, .int .i64 y3], .agg #[.int .i64 x, .int .i64 y], .bool false, .bool false, .bool false, .slice (some ⟨w.heap.size + 1, 0, none⟩) n n, .pointer (some ⟨wr.heap.size, 1, none⟩), .int .i64 q, .pointer (some ⟨w.heap.size + 1, q * 2, none⟩), .agg #[.int .i64 x2, .int .i64 y2], .agg #[.int .i64 u, .int .i64 v], .bool (diffS x2 y2 u v), .bool (diffS x2 y2 u v), .bool (diffS x2 y2 u v)] (by kernel_rfl) (by kernel_rfl) rfl ?_
        simp only [List.map_cons, List.map_nil]
        iterate 20 refine wpStir_const (by go_simp) ?_
        refine wpStir_end (fun w10 hb10 hd => ?_)
        clear hd
        simp only [List.drop_succ_cons, List.drop_zero]
        simp only [Act.put, List.setIfInBounds_toArray, List.set_cons_succ, List.set_cons_zero]
        have HS10 := Lib.hid (HS8'.out.mono hb10)
        have HL10 := Lib.hid (HL8'.out.trans (hb10.mono (Nat.le_of_lt t4)))
        clear hb10 g0 g1 g2 g3 b0 b1 b2 b3 b4 b5
        go_wp2_with fail
        exact HQ.out _ _ _ _ _ _ _ _ _ _ _ _ _ _ _ _ _ _ _ _ _ _ _ _ _ _ _ _ _ _ _ _ _ _ _ _ _ _ _ _ _ _ _ _ _ _ _ _ _ _ _ _ _ _ _ _ _ _ _ _ _ _ _ _ _ _ _ _ _ _ _ _ _ _ _ _ _ _ _ (by rw [hA]; rfl) _ HS10.out HL10.out
      · skip
        refine wp_region_vals 20 [.bool false, .bool false, .slice (some ⟨w.heap.size + 1, 0, none⟩) n n, .pointer (some ⟨wr.heap.size, 0, none⟩), .int .i64 p, .pointer (some ⟨w.heap.size + 1, p * 2, none⟩), .agg #[.int .i64 x3, .int .i64 y3], .agg #[.int .i64 x, .int .i64 y], .bool true, .bool true, .bool true, undef, undef, undef, undef, undef, undef, undef, .bool true, .bool true] (by kernel_rfl) (by kernel_rfl) rfl ?_
        simp only [List.map_cons, List.map_nil]
        iterate 20 refine wpStir_const (by go_simp) ?_
        refine wpStir_end (fun w10 hb10 hd => ?_)
        clear hd
        simp only [List.drop_succ_cons, List.drop_zero]
        simp only [Act.put, List.setIfInBounds_toArray, List.set_cons_succ, List.set_cons_zero]
        have HS10 := Lib.hid (HS8'.out.mono hb10)
        have HL10 := Lib.hid (HL8'.out.trans (hb10.mono (Nat.le_of_lt t4)))
        clear hb10 g0 g1 g2 g3 b0 b1 b2 b3 b4 b5
        go_wp2_with fail
        exact HQ.out _ _ _ _ _ _ _ _ _ _ _ _ _ _ _ _ _ _ _ _ _ _ _ _ _ _ _ _ _ _ _ _ _ _ _ _ _ _ _ _ _ _ _ _ _ _ _ _ _ _ _ _ _ _ _ _ _ _ _ _ _ _ _ _ _ _ _ _ _ _ _ _ _ _ _ _ _ _ _ (by rw [hA]; rfl) _ HS10.out HL10.out
    · skip
      refine wp_region_vals 20 [.bool true, .bool true, undef, undef, undef, undef, undef, undef, undef, .bool true, .bool true, undef, undef, undef, undef, undef, undef, undef, .bool true, .bool true] (by kernel_rfl) (by kernel_rfl) rfl ?_
      simp only [List.map_cons, List.map_nil]
      iterate 20 refine wpStir_const (by go_simp) ?_
      refine wpStir_end (fun w10 hb10 hd => ?_)
      clear hd
      simp only [List.drop_succ_cons, List.drop_zero]
      simp only [Act.put, List.setIfInBounds_toArray, List.set_cons_succ, List.set_cons_zero]
      have HS10 := Lib.hid (HS8'.out.mono hb10)
      have HL10 := Lib.hid (HL8'.out.trans (hb10.mono (Nat.le_of_lt t4)))
      clear hb10 g0 g1 g2 g3 b0 b1 b2 b3 b4 b5
      go_wp2_with fail
      exact HQ.out _ _ _ _ _ _ _ _ _ _ _ _ _ _ _ _ _ _ _ _ _ _ _ _ _ _ _ _ _ _ _ _ _ _ _ _ _ _ _ _ _ _ _ _ _ _ _ _ _ _ _ _ _ _ _ _ _ _ _ _ _ _ _ _ _ _ _ _ _ _ _ _ _ _ _ _ _ _ _ (rfl) _ HS10.out HL10.out
  · skip
    go_wp2_with fail
    refine wp_region_vals 17 [.slice (some ⟨w.heap.size + 1, 0, none⟩) n n, .pointer (some ⟨wr.heap.size, 1, none⟩), .int .i64 q, .agg #[.int .i64 u, .int .i64 v], .pointer (some ⟨wr.heap.size + 1 + 1, 0, none⟩), .int .i64 x, .pointer (some ⟨wr.heap.size, 2, none⟩), .int .i64 lo, .int .i64 (x + lo), .pointer (some ⟨wr.heap.size + 1 + 1, 1, none⟩), .int .i64 y, .pointer (some ⟨wr.heap.size, 3, none⟩), .int .i64 hi, .int .i64 (y + hi), .agg #[.int .i64 (x + lo), .int .i64 (y + hi)], .agg #[.int .i64 x2, .int .i64 y2], .pointer (some ⟨w.heap.size + 1, q * 2, none⟩)] (by kernel_rfl) (by kernel_rfl) rfl ?_
    simp only [List.map_cons, List.map_nil]
    iterate 15 refine wpStir_const (by go_simp) ?_
    refine wpStir_call rfl (fun w' hb hd => ?_) ?_
    · clear hd
      go_simp
      refine (HCB.out _).mono ?_
      rintro e w'' ⟨he, hb'⟩
      exact ⟨he, hb'⟩
    refine wpStir_const (by go_simp) ?_
    refine wpStir_end (fun w7 hb7 hd => ?_)
    clear hd
    simp only [List.drop_succ_cons, List.drop_zero]
    simp only [Act.put, List.setIfInBounds_toArray, List.set_cons_succ, List.set_cons_zero]
    have hB7 := bTrans (show Below wr.heap.size wr _ from by (repeat (first | (with_reducible exact Below.refl _ _) | (with_reducible refine bAlloc ?_ _) | (with_reducible refine bDrew ?_) | (with_reducible refine bGrow ?_ _ _) | (with_reducible refine bSet ?_ ?_ _; (first | exact Nat.le_refl _ | exact Nat.le_add_right _ _ | (simp; omega))) | (with_reducible refine bTrans ?_ (by assumption))))) hb7
    have HB7 := Lib.hid hB7
    have hS7 := HS11.out.mono hB7
    obtain ⟨g2, g3⟩ := hS7.cell q HQN.out
    have f2 := hS7.frz (q * 2)
    have f3 := hS7.frz (q * 2 + 1)
    have hx7 := hS7.lt
    obtain ⟨bc7, bf7⟩ := bcell hb7
    have hz7 : wr.heap.size + 1 + 1 + 1 ≤ w7.heap.size := by have := hb7.size; simpa using this
    have X11 : BoxAt w7 wr.heap.size [.int .i64 p, .int .i64 q, .int .i64 lo, .int .i64 hi] := BoxAt.four (by omega) ((bc7 _ _ (by simp <;> omega)).trans (by simp [go_sem])) ((bc7 _ _ (by simp <;> omega)).trans (by simp [go_sem])) ((bc7 _ _ (by simp <;> omega)).trans (by simp [go_sem])) ((bc7 _ _ (by simp <;> omega)).trans (by simp [go_sem]))
    have X12 : BoxAt w7 (wr.heap.size + 1 + 1) [.int .i64 x, .int .i64 y] := BoxAt.two (by omega) ((bc7 _ _ (by simp <;> omega)).trans (by simp [go_sem])) ((bc7 _ _ (by simp <;> omega)).trans (by simp [go_sem]))
    have X13 : BoxAt w7 (wr.heap.size + 1) [.int .i64 u, .int .i64 v] := BoxAt.two (by omega) ((bc7 _ _ (by simp <;> omega)).trans (by simp [go_sem])) ((bc7 _ _ (by simp <;> omega)).trans (by simp [go_sem]))
    have HS7 := Lib.hid (hS7.set HQN.out x2 y2)
    clear hB7 hb7 hS7 bc7 bf7 d0 d1 d2 d3 c0 c1 c2 c3
    go_wp2_with fail
    obtain ⟨w77, hw77⟩ : ∃ w77, w77 = (w7.setCell ⟨w.heap.size + 1, q * 2, none⟩ (.int .i64 x2)).setCell ⟨w.heap.size + 1, q * 2 + 1, none⟩ (.int .i64 y2) := ⟨_, rfl⟩
    have Y11 := (X11.set (b := w.heap.size + 1) (by omega) (q * 2) (.int .i64 x2)).set (b := w.heap.size + 1) (by omega) (q * 2 + 1) (.int .i64 y2)
    have Y12 := (X12.set (b := w.heap.size + 1) (by omega) (q * 2) (.int .i64 x2)).set (b := w.heap.size + 1) (by omega) (q * 2 + 1) (.int .i64 y2)
    have Y13 := (X13.set (b := w.heap.size + 1) (by omega) (q * 2) (.int .i64 x2)).set (b := w.heap.size + 1) (by omega) (q * 2 + 1) (.int .i64 y2)
    have HL7 := Lib.hid (Below.setCell (p := ⟨w.heap.size + 1, q * 2 + 1, none⟩) (Below.setCell (p := ⟨w.heap.size + 1, q * 2, none⟩) (HB7.out.mono (Nat.le_of_lt hx11)) (Nat.le_refl _) (.int .i64 x2)) (Nat.le_refl _) (.int .i64 y2))
    rw [← hw77] at Y11 Y12 Y13 HS7 HL7 ⊢
    clear hw77 f2 f3 g2 g3 X11 X12 X13 hx7 hz7 cT
    have HY11 := Lib.hid Y11
    have HY12 := Lib.hid Y12
    have HY13 := Lib.hid Y13
    have b0 := Y11.cell 0 _ rfl
    have b2 := Y11.cell 2 _ rfl
    have b3 := Y11.cell 3 _ rfl
    have b4 := Y12.cell 0 _ rfl
    have b5 := Y12.cell 1 _ rfl
    have b6 := Y13.cell 0 _ rfl
    have b7 := Y13.cell 1 _ rfl
    have t1 := Y11.lt
    have t2 := Y12.lt
    have t3 := Y13.lt
    clear Y11 Y12 Y13
    refine wp_region_vals 17 [.slice (some ⟨w.heap.size + 1, 0, none⟩) n n, .pointer (some ⟨wr.heap.size, 0, none⟩), .int .i64 p, .agg #[.int .i64 x, .int .i64 y], .pointer (some ⟨wr.heap.size + 1, 0, none⟩), .int .i64 u, .pointer (some ⟨wr.heap.size, 3, none⟩), .int .i64 hi, .int .i64 (u - hi), .pointer (some ⟨wr.heap.size + 1, 1, none⟩), .int .i64 v, .pointer (some ⟨wr.heap.size, 2, none⟩), .int .i64 lo, .int .i64 (v - lo), .agg #[.int .i64 (u - hi), .int .i64 (v - lo)], .agg #[.int .i64 x3, .int .i64 y3], .pointer (some ⟨w.heap.size + 1, p * 2, none⟩)] (by kernel_rfl) (by kernel_rfl) rfl ?_
    simp only [List.map_cons, List.map_nil]
    iterate 15 refine wpStir_const (by go_simp) ?_
    refine wpStir_call rfl (fun w' hb hd => ?_) ?_
    · clear hd
      go_simp
      refine (HCA.out _).mono ?_
      rintro e w'' ⟨he, hb'⟩
      exact ⟨he, hb'⟩
    refine wpStir_const (by go_simp) ?_
    refine wpStir_end (fun w8 hb8 hd => ?_)
    clear hd
    simp only [List.drop_succ_cons, List.drop_zero]
    simp only [Act.put, List.setIfInBounds_toArray, List.set_cons_succ, List.set_cons_zero]
    have hS8 := HS7.out.mono hb8
    obtain ⟨g0, g1⟩ := hS8.cell p HPN.out
    have f0 := hS8.frz (p * 2)
    have f1 := hS8.frz (p * 2 + 1)
    have hx8 := hS8.lt
    have HS8' := Lib.hid (hS8.set HPN.out x3 y3)
    have HL8' := Lib.hid (Below.setCell (p := ⟨w.heap.size + 1, p * 2 + 1, none⟩) (Below.setCell (p := ⟨w.heap.size + 1, p * 2, none⟩) (HL7.out.trans (hb8.mono (Nat.le_of_lt HS7.out.lt))) (Nat.le_refl _) (.int .i64 x3)) (Nat.le_refl _) (.int .i64 y3))
    have HZ11 := Lib.hid (((HY11.out.mono hb8).set (b := w.heap.size + 1) (by omega) (p * 2) (.int .i64 x3)).set (b := w.heap.size + 1) (by omega) (p * 2 + 1) (.int .i64 y3))
    have HZ12 := Lib.hid (((HY12.out.mono hb8).set (b := w.heap.size + 1) (by omega) (p * 2) (.int .i64 x3)).set (b := w.heap.size + 1) (by omega) (p * 2 + 1) (.int .i64 y3))
    have HZ13 := Lib.hid (((HY13.out.mono hb8).set (b := w.heap.size + 1) (by omega) (p * 2) (.int .i64 x3)).set (b := w.heap.size + 1) (by omega) (p * 2 + 1) (.int .i64 y3))
    clear hS8 hb8 e1 e2 e3 e4 b0 b2 b3 b4 b5 b6 b7 t1 t2 t3 HY11 HY12 HY13
    go_wp2_with fail
    obtain ⟨w9, hw9⟩ : ∃ w9, w9 = (w8.setCell ⟨w.heap.size + 1, p * 2, none⟩ (.int .i64 x3)).setCell ⟨w.heap.size + 1, p * 2 + 1, none⟩ (.int .i64 y3) := ⟨_, rfl⟩
    rw [← hw9] at HS8' HL8' HZ11 HZ12 HZ13 ⊢
    clear hw9 f0 f1 hx8 g0 g1
    have g0 := (HS8'.out.cell p HPN.out).1
    have g1 := (HS8'.out.cell p HPN.out).2
    have g2 := (HS8'.out.cell q HQN.out).1
    have g3 := (HS8'.out.cell q HQN.out).2
    rw [setS_at] at g0 g1
    rw [setS_ne _ _ (fun e => HPQ.out e.symm), setS_at] at g2 g3
    have b0 := HZ11.out.cell 0 _ rfl
    have b1 := HZ11.out.cell 1 _ rfl
    have b2 := HZ12.out.cell 0 _ rfl
    have b3 := HZ12.out.cell 1 _ rfl
    have b4 := HZ13.out.cell 0 _ rfl
    have b5 := HZ13.out.cell 1 _ rfl
    have t1 := HZ11.out.lt
    have t2 := HZ12.out.lt
    have t3 := HZ13.out.lt
    have t4 := HS8'.out.lt
    clear HZ11 HZ12 HZ13
    cases ch
    · cases hA : diffS x3 y3 x y
      · skip
        refine wp_region_vals 20 [.bool false, .bool false, .slice (some ⟨w.heap.size + 1, 0, none⟩) n n, .pointer (some ⟨wr.heap.size, 0, none⟩), .int .i64 p, .pointer (some ⟨w.heap.size + 1, p * 2, none⟩), .agg #[.int .i64 x3, .int .i64 y3], .agg #[.int .i64 x, .int .i64 y], .bool false, .bool false, .bool false, .slice (some ⟨w.heap.size + 1, 0, none⟩) n n, .pointer (some ⟨wr.heap.size, 1, none⟩), .int .i64 q, .pointer (some ⟨w.heap.size + 1, q * 2, none⟩), .agg #[.int .i64 x2, .int .i64 y2], .agg #[.int .i64 u, .int .i64 v], .bool (diffS x2 y2 u v), .bool (diffS x2 y2 u v), .bool (diffS x2 y2 u v)] (by kernel_rfl) (by kernel_rfl) rfl ?_
        simp only [List.map_cons, List.map_nil]
        iterate 20 refine wpStir_const (by go_simp) ?_
        refine wpStir_end (fun w10 hb10 hd => ?_)
        clear hd
        simp only [List.drop_succ_cons, List.drop_zero]
        simp only [Act.put, List.setIfInBounds_toArray, List.set_cons_succ, List.set_cons_zero]
        have HS10 := Lib.hid (HS8'.out.mono hb10)
        have HL10 := Lib.hid (HL8'.out.trans (hb10.mono (Nat.le_of_lt t4)))
        clear hb10 g0 g1 g2 g3 b0 b1 b2 b3 b4 b5
        go_wp2_with fail
        exact HQ.out _ _ _ _ _ _ _ _ _ _ _ _ _ _ _ _ _ _ _ _ _ _ _ _ _ _ _ _ _ _ _ _ _ _ _ _ _ _ _ _ _ _ _ _ _ _ _ _ _ _ _ _ _ _ _ _ _ _ _ _ _ _ _ _ _ _ _ _ _ _ _ _ _ _ _ _ _ _ _ (by rw [hA]; rfl) _ HS10.out HL10.out
      · skip
        refine wp_region_vals 20 [.bool false, .bool false, .slice (some ⟨w.heap.size + 1, 0, none⟩) n n, .pointer (some ⟨wr.heap.size, 0, none⟩), .int .i64 p, .pointer (some ⟨w.heap.size + 1, p * 2, none⟩), .agg #[.int .i64 x3, .int .i64 y3], .agg #[.int .i64 x, .int .i64 y], .bool true, .bool true, .bool true, undef, undef, undef, undef, undef, undef, undef, .bool true, .bool true] (by kernel_rfl) (by kernel_rfl) rfl ?_
        simp only [List.map_cons, List.map_nil]
        iterate 20 refine wpStir_const (by go_simp) ?_
        refine wpStir_end (fun w10 hb10 hd => ?_)
        clear hd
        simp only [List.drop_succ_cons, List.drop_zero]
        simp only [Act.put, List.setIfInBounds_toArray, List.set_cons_succ, List.set_cons_zero]
        have HS10 := Lib.hid (HS8'.out.mono hb10)
        have HL10 := Lib.hid (HL8'.out.trans (hb10.mono (Nat.le_of_lt t4)))
        clear hb10 g0 g1 g2 g3 b0 b1 b2 b3 b4 b5
        go_wp2_with fail
        exact HQ.out _ _ _ _ _ _ _ _ _ _ _ _ _ _ _ _ _ _ _ _ _ _ _ _ _ _ _ _ _ _ _ _ _ _ _ _ _ _ _ _ _ _ _ _ _ _ _ _ _ _ _ _ _ _ _ _ _ _ _ _ _ _ _ _ _ _ _ _ _ _ _ _ _ _ _ _ _ _ _ (by rw [hA]; rfl) _ HS10.out HL10.out
    · skip
      refine wp_region_vals 20 [.bool true, .bool true, undef, undef, undef, undef, undef, undef, undef, .bool true, .bool true, undef, undef, undef, undef, undef, undef, undef, .bool true, .bool true] (by kernel_rfl) (by kernel_rfl) rfl ?_
      simp only [List.map_cons, List.map_nil]
      iterate 20 refine wpStir_const (by go_simp) ?_
      refine wpStir_end (fun w10 hb10 hd => ?_)
      clear hd
      simp only [List.drop_succ_cons, List.drop_zero]
      simp only [Act.put, List.setIfInBounds_toArray, List.set_cons_succ, List.set_cons_zero]
      have HS10 := Lib.hid (HS8'.out.mono hb10)
      have HL10 := Lib.hid (HL8'.out.trans (hb10.mono (Nat.le_of_lt t4)))
      clear hb10 g0 g1 g2 g3 b0 b1 b2 b3 b4 b5
      go_wp2_with fail
      exact HQ.out _ _ _ _ _ _ _ _ _ _ _ _ _ _ _ _ _ _ _ _ _ _ _ _ _ _ _ _ _ _ _ _ _ _ _ _ _ _ _ _ _ _ _ _ _ _ _ _ _ _ _ _ _ _ _ _ _ _ _ _ _ _ _ _ _ _ _ _ _ _ _ _ _ _ _ _ _ _ _ (rfl) _ HS10.out HL10.out
end Go.Proofs.YtdboicnlkbnbnaaDoor
