/- The statement TopReached: the walk. Conditions: lengths are Go's; the listed variable holds what it holds. -/
import Derived.Test.YtdboicnlkbnbnaaDoorLvO
import Derived.Test.YtdboicnlkbnbnaaDoorLvE
namespace Go.Proofs.YtdboicnlkbnbnaaDoor
open Go.RowKit Go.Sort
theorem BoxAt.three {w : World} {a : Nat} {x y z : Value} (h : a < w.heap.size) (h0 : w.cell? ⟨a, 0, none⟩ = some x) (h1 : w.cell? ⟨a, 1, none⟩ = some y) (h2 : w.cell? ⟨a, 2, none⟩ = some z) : BoxAt w a [x, y, z] :=
  ⟨h, fun i v hi => match i, hi with
    | 0, hi => by injection hi with hi; subst hi; exact h0
    | 1, hi => by injection hi with hi; subst hi; exact h1
    | 2, hi => by injection hi with hi; subst hi; exact h2⟩
/-- a shaft that First hands back -/
def gvS (S : Sh) (d : Nat) (v : Value) : Prop := ∃ (A : Option Addr) (p : Addr) (c1 c2 : Nat), v = .agg #[.slice A S.nr c1, .slice (some p) d c2, .int .i64 S.deep, .int .i64 S.haul, .int .i64 S.rest]
def gvR (S : Sh) (d : Nat) (w : World) (v : Value) : Prop := ∃ (A : Option Addr) (p : Addr) (c1 c2 : Nat), v = .agg #[.slice A S.nr c1, .slice (some p) d c2, .int .i64 S.deep, .int .i64 S.haul, .int .i64 S.rest] ∧ ShAt w A (some p) (S.first d)
theorem gvG (S : Sh) (d : Nat) : (Stir.held (gvS S d) (gvR S d)).good := ⟨⟨_, none, ⟨0, 0, none⟩, 0, 0, rfl⟩, fun _ _ _ hb ⟨A, p, c1, c2, e, h⟩ => ⟨A, p, c1, c2, e, h.mono hb⟩⟩
theorem gvR_get {S : Sh} {d : Nat} {w : World} {A : Option Addr} {p : Addr} {c1 c2 : Nat} (h : gvR S d w (.agg #[.slice A S.nr c1, .slice (some p) d c2, .int .i64 S.deep, .int .i64 S.haul, .int .i64 S.rest])) : ShAt w A (some p) (S.first d) := by
  obtain ⟨A', p', d1, d2, e, h⟩ := h
  injection e with e
  have e1 := congrArg (fun x : Array Value => x[0]?) e
  have e2 := congrArg (fun x : Array Value => x[1]?) e
  simp at e1 e2
  obtain ⟨rfl, _⟩ := e1
  obtain ⟨rfl, _⟩ := e2
  exact h
set_option maxHeartbeats 16000000 in
set_option maxRecDepth 100000 in
theorem TopReached_any (As Al : Option Addr) (cs cl : Nat) (t : Lt) (Ar Af : Option Addr) (cr cf : Nat) (S : Sh) (Ax : Option Addr) (nx cx : Nat) (g : Nat → Int) (well : Int) (sd : Snd) (w : World)
    (hs : t.ns ≤ 9223372036854775807) (hl : t.nl ≤ 9223372036854775807) (hr : S.nr ≤ 9223372036854775807) (hf : S.nf ≤ 9223372036854775807) (hnx : nx ≤ 9223372036854775807) (hT : LtAt w As Al t) (hS : ShAt w Ar Af S) (hX : IntsAt w Ax nx g) (hN : NoneAt w) :
    Calls Tryd.prog 3 #[.agg #[.int .i64 t.wells, .slice As t.ns cs, .slice Al t.nl cl], .agg #[.slice Ar S.nr cr, .slice Af S.nf cf, .int .i64 S.deep, .int .i64 S.haul, .int .i64 S.rest], .agg #[.int .i64 well, .slice Ax nx cx, .int .i64 sd.well, .int .i64 sd.low, .int .i64 sd.high]] w fun e w' => e = .returned (.bool true) ∧ Below w.heap.size w w' := by
  have hb0 := bAlloc (bAlloc (bAlloc (Below.refl w.heap.size w) (.cells #[.int .i64 t.wells, .slice As t.ns cs, .slice Al t.nl cl] 25)) (.cells #[.slice Ar S.nr cr, .slice Af S.nf cf, .int .i64 S.deep, .int .i64 S.haul, .int .i64 S.rest] 29)) (.cells #[.int .i64 well, .slice Ax nx cx, .int .i64 sd.well, .int .i64 sd.low, .int .i64 sd.high] 33)
  have HT := Lib.hid (hT.mono hb0)
  have HS := Lib.hid (hS.mono hb0)
  have HX := Lib.hid (hX.mono hb0)
  have HN := Lib.hid (hN.mono hb0)
  have HB := Lib.hid hb0
  clear hT hS hX hN hb0
  go_enter Tryd.func3, Tryd.ntmps3
  go_wp2_with fail
  refine (lvFar_any _ _ _ _ t _ hs hl HT.out).mono ?_
  rintro e w1 ⟨⟨fb, rfl, _⟩, hb1⟩
  have HB1 := Lib.hid hb1
  obtain ⟨bc1, bf1⟩ := bcell HB1.out
  have hz1 := HB1.out.size
  simp only [World.size_alloc] at hz1
  have hy1 : w.heap.size < w1.heap.size := by omega
  have hv1 : w.heap.size + 1 < w1.heap.size := by omega
  have hu1 : w.heap.size + 1 + 1 < w1.heap.size := by omega
  clear hb1
  cases fb
  case true =>
    go_wp2_with fail
    refine (reached_any _ (HN.out.mono (HB1.out))).mono ?_
    rintro e w99 ⟨rfl, hb99⟩
    go_wp2_with fail
    go_ret
    exact ⟨rfl, bTrans HB.out (bTrans (HB1.out) hb99)⟩
  go_wp2_with fail
  refine (refLvCheck _ _ _ _ t _ hs hl (HT.out.mono HB1.out)).mono ?_
  rintro e w2 ⟨he, hb2⟩
  have HB2 := Lib.hid (bTrans HB1.out hb2)
  obtain ⟨bc2, bf2⟩ := bcell HB2.out
  have hz2 := HB2.out.size
  simp only [World.size_alloc] at hz2
  have hy2 : w.heap.size < w2.heap.size := by omega
  have hv2 : w.heap.size + 1 < w2.heap.size := by omega
  have hu2 : w.heap.size + 1 + 1 < w2.heap.size := by omega
  clear hb2 bc1 bf1 hz1 hy1 hv1 hu1
  by_cases hok : t.Ok
  case neg =>
    rw [Lt.err_bad hok] at he
    subst he
    go_wp2_with fail
    refine (reached_any _ (HN.out.mono (HB2.out))).mono ?_
    rintro e w99 ⟨rfl, hb99⟩
    go_wp2_with fail
    go_ret
    exact ⟨rfl, bTrans HB.out (bTrans (HB2.out) hb99)⟩
  rw [Lt.err_ok hok] at he
  subst he
  have HOK := Lib.hid hok
  have ns8 := hok.ns
  have nl8 := hok.nl
  have hw0 := hok.w0
  have hw1 := hok.w1
  clear hok
  go_wp2_with fail
  refine (Far_any _ _ _ _ S _ hr hf (HS.out.mono HB2.out)).mono ?_
  rintro e w3 ⟨⟨fb, rfl, _⟩, hb3⟩
  have HB3 := Lib.hid (bTrans HB2.out hb3)
  obtain ⟨bc3, bf3⟩ := bcell HB3.out
  have hz3 := HB3.out.size
  simp only [World.size_alloc] at hz3
  have hy3 : w.heap.size < w3.heap.size := by omega
  have hv3 : w.heap.size + 1 < w3.heap.size := by omega
  have hu3 : w.heap.size + 1 + 1 < w3.heap.size := by omega
  clear hb3 bc2 bf2 hz2 hy2 hv2 hu2
  cases fb
  case true =>
    go_wp2_with fail
    refine (reached_any _ (HN.out.mono (HB3.out))).mono ?_
    rintro e w99 ⟨rfl, hb99⟩
    go_wp2_with fail
    go_ret
    exact ⟨rfl, bTrans HB.out (bTrans (HB3.out) hb99)⟩
  go_wp2_with fail
  refine (refCheck_any _ _ _ _ S _ hr hf (HS.out.mono HB3.out)).mono ?_
  rintro e w4 ⟨he, hb4⟩
  have HB4 := Lib.hid (bTrans HB3.out hb4)
  obtain ⟨bc4, bf4⟩ := bcell HB4.out
  have hz4 := HB4.out.size
  simp only [World.size_alloc] at hz4
  have hy4 : w.heap.size < w4.heap.size := by omega
  have hv4 : w.heap.size + 1 < w4.heap.size := by omega
  have hu4 : w.heap.size + 1 + 1 < w4.heap.size := by omega
  clear hb4 bc3 bf3 hz3 hy3 hv3 hu3
  by_cases hsk : S.Ok
  case neg =>
    rw [Sh.err_bad hsk] at he
    subst he
    go_wp2_with fail
    refine (reached_any _ (HN.out.mono (HB4.out))).mono ?_
    rintro e w99 ⟨rfl, hb99⟩
    go_wp2_with fail
    go_ret
    exact ⟨rfl, bTrans HB.out (bTrans (HB4.out) hb99)⟩
  rw [Sh.err_ok hsk] at he
  subst he
  have HSK := Lib.hid hsk
  have hsr := hsk.nr
  have hsf := hsk.nf
  clear hsk
  go_wp2_with fail
  refine (isWell_ref _ _ _ _ t well _ hw0 hw1).mono ?_
  rintro e w5 ⟨he, hb5⟩
  have HB5 := Lib.hid (bTrans HB4.out hb5)
  obtain ⟨bc5, bf5⟩ := bcell HB5.out
  have hz5 := HB5.out.size
  simp only [World.size_alloc] at hz5
  have hy5 : w.heap.size < w5.heap.size := by omega
  have hv5 : w.heap.size + 1 < w5.heap.size := by omega
  have hu5 : w.heap.size + 1 + 1 < w5.heap.size := by omega
  clear hb5 bc4 bf4 hz4 hy4 hv4 hu4
  cases hin : inR well 0 (t.wells - 1)
  case false =>
    rw [hin] at he
    subst he
    clear hin
    go_wp2_with fail
    refine (reached_any _ (HN.out.mono (HB5.out))).mono ?_
    rintro e w99 ⟨rfl, hb99⟩
    go_wp2_with fail
    go_ret
    exact ⟨rfl, bTrans HB.out (bTrans (HB5.out) hb99)⟩
  rw [hin] at he
  subst he
  obtain ⟨wl0, wl1⟩ := inR_iff.1 hin
  clear hin
  by_cases h40 : (40 : Int) < (nx : Int)
  case pos =>
    go_wp2_with fail
    refine (reached_any _ (HN.out.mono (HB5.out))).mono ?_
    rintro e w99 ⟨rfl, hb99⟩
    go_wp2_with fail
    go_ret
    exact ⟨rfl, bTrans HB.out (bTrans (HB5.out) hb99)⟩
  have hn40 : nx ≤ 40 := by omega
  go_wp2_with fail
  refine (isTruth_any _ _ _ _ _ _ t nx g _ HOK.out hn40 (HT.out.mono HB5.out) (HX.out.mono HB5.out)).mono ?_
  rintro e w7 ⟨rfl | ⟨rfl, hnw, htr⟩, hb7⟩
  · skip
    have HB7 := Lib.hid (bTrans HB5.out hb7)
    obtain ⟨bc7, bf7⟩ := bcell HB7.out
    have hz7 := HB7.out.size
    simp only [World.size_alloc] at hz7
    have hy7 : w.heap.size < w7.heap.size := by omega
    have hv7 : w.heap.size + 1 < w7.heap.size := by omega
    have hu7 : w.heap.size + 1 + 1 < w7.heap.size := by omega
    clear hb7 bc5 bf5 hz5 hy5 hv5 hu5
    go_wp2_with fail
    refine (reached_any _ (HN.out.mono (HB7.out))).mono ?_
    rintro e w99 ⟨rfl, hb99⟩
    go_wp2_with fail
    go_ret
    exact ⟨rfl, bTrans HB.out (bTrans (HB7.out) hb99)⟩
  have HB7 := Lib.hid (bTrans HB5.out hb7)
  obtain ⟨bc7, bf7⟩ := bcell HB7.out
  have hz7 := HB7.out.size
  simp only [World.size_alloc] at hz7
  have hy7 : w.heap.size < w7.heap.size := by omega
  have hv7 : w.heap.size + 1 < w7.heap.size := by omega
  have hu7 : w.heap.size + 1 + 1 < w7.heap.size := by omega
  clear hb7 bc5 bf5 hz5 hy5 hv5 hu5
  have HTR := Lib.hid htr
  have hwn : well < (nx : Int) := by omega
  obtain ⟨q0, q1⟩ := level_truth HOK.out htr (w := well.toNat) (by omega)
  obtain ⟨r0, r1⟩ := shut_le t (w := well.toNat) (by omega)
  obtain ⟨a, ha⟩ : ∃ a : Nat, t.low well.toNat = (a : Int) := ⟨(t.low well.toNat).toNat, by omega⟩
  obtain ⟨d, hd⟩ : ∃ d : Nat, g well.toNat = (d : Int) := ⟨(g well.toNat).toNat, by omega⟩
  obtain ⟨b, hb⟩ : ∃ b : Nat, t.high well.toNat = (b : Int) := ⟨(t.high well.toNat).toNat, by omega⟩
  have HAA := Lib.hid ha
  have HBB := Lib.hid hb
  have had : a ≤ d := by omega
  have hdb : d ≤ b := by omega
  have hb99' : b ≤ 99 := by omega
  obtain ⟨bi, oi, hAi, hbi, ci0⟩ := HX.out.get (i := well.toNat) (by omega)
  rw [hd] at ci0
  have HCI := Lib.hid ci0
  have HNW := Lib.hid hnw
  subst hAi
  clear hnw htr q0 q1 r0 r1 hd ci0 h40
  go_wp2_with fail
  refine (Level_any _ _ _ _ t g well _ HOK.out HTR.out ⟨wl0, by omega⟩ (HT.out.mono HB7.out)).mono ?_
  rintro e w8 ⟨he, hb8⟩
  rw [ha, hb] at he
  subst he
  clear ha hb
  have HB8 := Lib.hid (bTrans HB7.out hb8)
  obtain ⟨bc8, bf8⟩ := bcell HB8.out
  have hz8 := HB8.out.size
  simp only [World.size_alloc] at hz8
  have hy8 : w.heap.size < w8.heap.size := by omega
  have hv8 : w.heap.size + 1 < w8.heap.size := by omega
  have hu8 : w.heap.size + 1 + 1 < w8.heap.size := by omega
  clear hb8 bc7 bf7 hz7 hy7 hv7 hu7
  have c8 : w8.cell? ⟨bi, oi + well.toNat, none⟩ = some (.int .i64 d) := (bc8 _ _ hbi).trans HCI.out
  have b8 : bi < w8.heap.size := Nat.lt_of_lt_of_le hbi HB8.out.size
  have n1 : ¬ (a : Int) < 0 := by omega
  have n2 : ¬ (99 : Int) < (b : Int) := by omega
  have n3 : ¬ d < a := by omega
  have n4 : ¬ b < d := by omega
  go_wp2_with fail
  refine wp_region_vals 34 [.int .i64 0, .bool false, .bool false, .pointer (some ⟨w8.heap.size, 0, none⟩), .int .i64 a, .bool false, .bool false, .bool false, .pointer (some ⟨w8.heap.size, 1, none⟩), .int .i64 b, .bool false, .bool false, .bool false, .pointer (some ⟨w.heap.size + 1 + 1, 1, none⟩), .slice (some ⟨bi, oi, none⟩) nx cx, .pointer (some ⟨w.heap.size + 1 + 1, 0, none⟩), .int .i64 well, .pointer (some ⟨bi, oi + well.toNat, none⟩), .int .i64 d, .pointer (some ⟨w8.heap.size, 0, none⟩), .int .i64 a, .bool false, .bool false, .bool false, .pointer (some ⟨w.heap.size + 1 + 1, 1, none⟩), .slice (some ⟨bi, oi, none⟩) nx cx, .pointer (some ⟨w.heap.size + 1 + 1, 0, none⟩), .int .i64 well, .pointer (some ⟨bi, oi + well.toNat, none⟩), .int .i64 d, .pointer (some ⟨w8.heap.size, 1, none⟩), .int .i64 b, .bool false, .bool false] (by kernel_rfl) (by kernel_rfl) rfl ?_
  simp only [List.map_cons, List.map_nil]
  iterate 34 refine wpStir_const (by go_simp) ?_
  refine wpStir_end (fun w9 hb9 hd => ?_)
  clear hd
  simp only [List.drop_succ_cons, List.drop_zero]
  simp only [Act.put, List.setIfInBounds_toArray, List.set_cons_succ, List.set_cons_zero]
  have hp9 := BoxAt.mono (BoxAt.two (w := w8.alloc (.cells #[.int .i64 a, .int .i64 b] 43)) (a := w8.heap.size) (x := .int .i64 a) (y := .int .i64 b) (by simp) (by simp [go_sem]) (by simp [go_sem])) hb9
  have HP9 := Lib.hid hp9
  have hb9 := bTrans (bAlloc (Below.refl w8.heap.size w8) _) hb9
  clear hp9 c8 b8 n1 n2 n3 n4
  have HB9 := Lib.hid (bTrans HB8.out hb9)
  obtain ⟨bc9, bf9⟩ := bcell HB9.out
  have hz9 := HB9.out.size
  simp only [World.size_alloc] at hz9
  have hy9 : w.heap.size < w9.heap.size := by omega
  have hv9 : w.heap.size + 1 < w9.heap.size := by omega
  have hu9 : w.heap.size + 1 + 1 < w9.heap.size := by omega
  clear hb9 bc8 bf8 hz8 hy8 hv8 hu8
  have xP9 := HP9.out.lt
  have yP9a := HP9.out.cell 0 _ rfl
  have yP9b := HP9.out.cell 1 _ rfl
  by_cases hbf : S.nf < b
  case pos =>
    have m1 : (S.nf : Int) < (b : Int) := by omega
    go_wp2_with fail
    refine (reached_any _ (HN.out.mono (HB9.out))).mono ?_
    rintro e w99 ⟨rfl, hb99⟩
    go_wp2_with fail
    go_ret
    exact ⟨rfl, bTrans HB.out (bTrans (HB9.out) hb99)⟩
  have m1 : ¬ (S.nf : Int) < (b : Int) := by omega
  go_wp2_with fail
  refine (prices_any _ _ _ _ S a b _ HSK.out (by omega) (by omega) (by omega) (by omega) (HS.out.mono HB9.out) (HN.out.mono HB9.out)).mono ?_
  rintro e w10 ⟨⟨mn, mx, is, rfl, hp⟩, hb10⟩
  have HPR := Lib.hid hp
  clear hp m1
  clear xP9 yP9a yP9b
  have HB10 := Lib.hid (bTrans HB9.out hb10)
  have HP10 := Lib.hid (HP9.out.mono hb10)
  obtain ⟨bc10, bf10⟩ := bcell HB10.out
  have hz10 := HB10.out.size
  simp only [World.size_alloc] at hz10
  have hy10 : w.heap.size < w10.heap.size := by omega
  have hv10 : w.heap.size + 1 < w10.heap.size := by omega
  have hu10 : w.heap.size + 1 + 1 < w10.heap.size := by omega
  clear hb10 bc9 bf9 hz9 hy9 hv9 hu9
  have xP10 := HP10.out.lt
  have yP10a := HP10.out.cell 0 _ rfl
  have yP10b := HP10.out.cell 1 _ rfl
  have c10 : w10.cell? ⟨bi, oi + well.toNat, none⟩ = some (.int .i64 d) := (bc10 _ _ hbi).trans HCI.out
  have b10 : bi < w10.heap.size := Nat.lt_of_lt_of_le hbi HB10.out.size
  have okd : (S.first d).Ok := HSK.out.first (by omega)
  have herr := cheap_err okd
  obtain ⟨n, hn⟩ : ∃ n, (S.first d).cheapOut.1 = n := ⟨_, rfl⟩
  obtain ⟨ec, hec⟩ : ∃ ec, (S.first d).cheapOut.2 = ec := ⟨_, rfl⟩
  rw [hec] at herr
  have HNN := Lib.hid hn
  have HEC := Lib.hid hec
  have HERR := Lib.hid herr
  clear hn hec okd herr
  go_wp2_with fail
  refine wp_region_stir 14 [.const (.agg #[.slice Ar S.nr cr, .slice Af S.nf cf, .int .i64 S.deep, .int .i64 S.haul, .int .i64 S.rest]), .const (.pointer (some ⟨w.heap.size + 1 + 1, 1, none⟩)), .const (.slice (some ⟨bi, oi, none⟩) nx cx), .const (.pointer (some ⟨w.heap.size + 1 + 1, 0, none⟩)), .const (.int .i64 well), .const (.pointer (some ⟨bi, oi + well.toNat, none⟩)), .const (.int .i64 d), .held (gvS S d) (gvR S d), .const (.tuple #[.int .i64 n, .int .i64 ec]), .const (.tuple #[.int .i64 n, .int .i64 ec]), .const (.int .i64 n), .const (.int .i64 ec), .const (.int .i64 n), .const (.int .i64 ec)] (by kernel_rfl) (by kernel_rfl) rfl
    ⟨trivial, trivial, trivial, trivial, trivial, trivial, trivial, gvG S d, trivial, trivial, trivial, trivial, trivial, trivial, trivial⟩ (crossAll_no _ _ _ _ trivial) ?_
  iterate 7 refine wpStir_const (by go_simp) ?_
  refine wpStir_held rfl (fun w' hb hd => ?_) (fun v hv => ?_)
  · clear hd
    go_simp
    refine (First_any _ _ _ _ S d _ (by omega) (by omega) (by omega) (HS.out.mono (bTrans (bAlloc HB10.out _) hb))).mono ?_
    rintro e w'' ⟨⟨A', p', c1, c2, he, hS', _, _⟩, hb'⟩
    exact ⟨_, he, hb', ⟨A', p', c1, c2, rfl⟩, A', p', c1, c2, rfl, hS'⟩
  obtain ⟨A', p', c1, c2, rfl⟩ := hv
  refine wpStir_call rfl (fun w' hb hd => ?_) ?_
  · have hSh := gvR_get (hd.1 (by kernel_rfl))
    clear hd
    go_simp
    refine (Cheap_any _ _ _ _ (S.first d) _ (show S.nr ≤ _ by omega) (show d ≤ _ by omega) hSh (HN.out.mono (bTrans (bAlloc HB10.out _) hb))).mono ?_
    rintro e w'' ⟨he, hb'⟩
    rw [HNN.out, HEC.out] at he
    exact ⟨he, hb'⟩
  iterate 5 refine wpStir_const (by go_simp) ?_
  refine wpStir_end (fun w11 hb11 hd => ?_)
  clear hd
  simp only [List.drop_succ_cons, List.drop_zero]
  simp only [Act.put, List.setIfInBounds_toArray, List.set_cons_succ, List.set_cons_zero]
  have hq11 := BoxAt.mono (BoxAt.two (w := w10.alloc (.cells #[.int .i64 mn, .int .i64 mx] 43)) (a := w10.heap.size) (x := .int .i64 mn) (y := .int .i64 mx) (by simp) (by simp [go_sem]) (by simp [go_sem])) hb11
  have HQ11 := Lib.hid hq11
  have hb11 := bTrans (bAlloc (Below.refl w10.heap.size w10) _) hb11
  clear hq11 c10 b10
  clear xP10 yP10a yP10b
  have HB11 := Lib.hid (bTrans HB10.out hb11)
  have HP11 := Lib.hid (HP10.out.mono hb11)
  obtain ⟨bc11, bf11⟩ := bcell HB11.out
  have hz11 := HB11.out.size
  simp only [World.size_alloc] at hz11
  have hy11 : w.heap.size < w11.heap.size := by omega
  have hv11 : w.heap.size + 1 < w11.heap.size := by omega
  have hu11 : w.heap.size + 1 + 1 < w11.heap.size := by omega
  clear hb11 bc10 bf10 hz10 hy10 hv10 hu10
  have xP11 := HP11.out.lt
  have yP11a := HP11.out.cell 0 _ rfl
  have yP11b := HP11.out.cell 1 _ rfl
  have xP11 := HP11.out.lt
  have yP11a := HP11.out.cell 0 _ rfl
  have yP11b := HP11.out.cell 1 _ rfl
  have xQ11 := HQ11.out.lt
  have yQ11a := HQ11.out.cell 0 _ rfl
  have yQ11b := HQ11.out.cell 1 _ rfl
  have hcase : (ec = 0 ∧ is = true ∧ ¬ n < mn ∧ ¬ mx < n) ∨ ec = 3 := by
    rcases HERR.out with rfl | rfl
    · left
      have his : is = true := by
        cases is
        · exact absurd HEC.out (HPR.out.none rfl d (by omega) (by omega))
        · rfl
      have := (HPR.out.some his).1 d (by omega) (by omega) HEC.out
      rw [HNN.out] at this
      exact ⟨rfl, his, by omega, by omega⟩
    · exact .inr rfl
  rcases hcase with ⟨rfl, hist, m2, m3⟩ | rfl
  all_goals
    go_wp2_with fail
    refine (lvSounded_any _ _ _ _ t sd _ (by omega) (by omega) (HT.out.mono HB11.out)).mono ?_
    rintro e w12 ⟨⟨Bs, ks, Bl, kl, rfl, hO⟩, hb12⟩
    have HO12 := Lib.hid (hO.mono (bAlloc (Below.refl w12.heap.size w12) (.cells #[.int .i64 t.wells, .slice Bs (t.ns + 1 : Nat) ks, .slice Bl t.nl kl] 25)))
    clear hO
    clear xP11 yP11a yP11b xQ11 yQ11a yQ11b
    have HB12 := Lib.hid (bTrans HB11.out hb12)
    have HP12 := Lib.hid (HP11.out.mono hb12)
    have HQ12 := Lib.hid (HQ11.out.mono hb12)
    obtain ⟨bc12, bf12⟩ := bcell HB12.out
    have hz12 := HB12.out.size
    simp only [World.size_alloc] at hz12
    have hy12 : w.heap.size < w12.heap.size := by omega
    have hv12 : w.heap.size + 1 < w12.heap.size := by omega
    have hu12 : w.heap.size + 1 + 1 < w12.heap.size := by omega
    clear hb12 bc11 bf11 hz11 hy11 hv11 hu11
    have xP12 := HP12.out.lt
    have yP12a := HP12.out.cell 0 _ rfl
    have yP12b := HP12.out.cell 1 _ rfl
    have xQ12 := HQ12.out.lt
    have yQ12a := HQ12.out.cell 0 _ rfl
    have yQ12b := HQ12.out.cell 1 _ rfl
    go_wp2_with fail
    refine (lvFar_any _ _ _ _ (t.sounded sd) _ (show t.ns + 1 ≤ _ by omega) (show t.nl ≤ _ by omega) HO12.out).mono ?_
    rintro e w13 ⟨⟨fb, rfl, _⟩, hb13⟩
    have HO13 := Lib.hid (HO12.out.mono hb13)
    have hr13 := BoxAt.mono (BoxAt.three (w := w12.alloc (.cells #[.int .i64 t.wells, .slice Bs (t.ns + 1 : Nat) ks, .slice Bl t.nl kl] 25)) (a := w12.heap.size) (x := .int .i64 t.wells) (y := .slice Bs (t.ns + 1 : Nat) ks) (z := .slice Bl t.nl kl) (by simp) (by simp [go_sem]) (by simp [go_sem]) (by simp [go_sem])) hb13
    have HR13 := Lib.hid hr13
    have hb13 := bTrans (bAlloc (Below.refl w12.heap.size w12) _) hb13
    clear hr13
    clear xP12 yP12a yP12b xQ12 yQ12a yQ12b
    have HB13 := Lib.hid (bTrans HB12.out hb13)
    have HP13 := Lib.hid (HP12.out.mono hb13)
    have HQ13 := Lib.hid (HQ12.out.mono hb13)
    obtain ⟨bc13, bf13⟩ := bcell HB13.out
    have hz13 := HB13.out.size
    simp only [World.size_alloc] at hz13
    have hy13 : w.heap.size < w13.heap.size := by omega
    have hv13 : w.heap.size + 1 < w13.heap.size := by omega
    have hu13 : w.heap.size + 1 + 1 < w13.heap.size := by omega
    clear hb13 bc12 bf12 hz12 hy12 hv12 hu12
    have xP13 := HP13.out.lt
    have yP13a := HP13.out.cell 0 _ rfl
    have yP13b := HP13.out.cell 1 _ rfl
    have xQ13 := HQ13.out.lt
    have yQ13a := HQ13.out.cell 0 _ rfl
    have yQ13b := HQ13.out.cell 1 _ rfl
    have xR13 := HR13.out.lt
    have yR13a := HR13.out.cell 0 _ rfl
    have yR13b := HR13.out.cell 1 _ rfl
    have yR13c := HR13.out.cell 2 _ rfl
    cases fb
    case true =>
      go_wp2_with fail
      refine (reached_any _ (HN.out.mono (HB13.out))).mono ?_
      rintro e w99 ⟨rfl, hb99⟩
      go_wp2_with fail
      go_ret
      exact ⟨rfl, bTrans HB.out (bTrans (HB13.out) hb99)⟩
    go_wp2_with fail
    refine (refLvCheck _ _ _ _ (t.sounded sd) _ (show t.ns + 1 ≤ _ by omega) (show t.nl ≤ _ by omega) HO13.out).mono ?_
    rintro e w14 ⟨he, hb14⟩
    have HO14 := Lib.hid (HO13.out.mono hb14)
    clear xP13 yP13a yP13b xQ13 yQ13a yQ13b xR13 yR13a yR13b yR13c
    have HB14 := Lib.hid (bTrans HB13.out hb14)
    have HP14 := Lib.hid (HP13.out.mono hb14)
    have HQ14 := Lib.hid (HQ13.out.mono hb14)
    have HR14 := Lib.hid (HR13.out.mono hb14)
    obtain ⟨bc14, bf14⟩ := bcell HB14.out
    have hz14 := HB14.out.size
    simp only [World.size_alloc] at hz14
    have hy14 : w.heap.size < w14.heap.size := by omega
    have hv14 : w.heap.size + 1 < w14.heap.size := by omega
    have hu14 : w.heap.size + 1 + 1 < w14.heap.size := by omega
    clear hb14 bc13 bf13 hz13 hy13 hv13 hu13
    have xP14 := HP14.out.lt
    have yP14a := HP14.out.cell 0 _ rfl
    have yP14b := HP14.out.cell 1 _ rfl
    have xQ14 := HQ14.out.lt
    have yQ14a := HQ14.out.cell 0 _ rfl
    have yQ14b := HQ14.out.cell 1 _ rfl
    have xR14 := HR14.out.lt
    have yR14a := HR14.out.cell 0 _ rfl
    have yR14b := HR14.out.cell 1 _ rfl
    have yR14c := HR14.out.cell 2 _ rfl
    by_cases hok2 : (t.sounded sd).Ok
    case neg =>
      rw [Lt.err_bad hok2] at he
      subst he
      go_wp2_with fail
      refine (reached_any _ (HN.out.mono (HB14.out))).mono ?_
      rintro e w99 ⟨rfl, hb99⟩
      go_wp2_with fail
      go_ret
      exact ⟨rfl, bTrans HB.out (bTrans (HB14.out) hb99)⟩
    rw [Lt.err_ok hok2] at he
    subst he
    have HOK2 := Lib.hid hok2
    clear hok2
    go_wp2_with fail
    refine (isOne_any _ _ _ _ (t.sounded sd) _ HOK2.out HO14.out).mono ?_
    rintro e w15 ⟨hone, hb15⟩
    have HO15 := Lib.hid (HO14.out.mono hb15)
    clear xP14 yP14a yP14b xQ14 yQ14a yQ14b xR14 yR14a yR14b yR14c
    have HB15 := Lib.hid (bTrans HB14.out hb15)
    have HP15 := Lib.hid (HP14.out.mono hb15)
    have HQ15 := Lib.hid (HQ14.out.mono hb15)
    have HR15 := Lib.hid (HR14.out.mono hb15)
    obtain ⟨bc15, bf15⟩ := bcell HB15.out
    have hz15 := HB15.out.size
    simp only [World.size_alloc] at hz15
    have hy15 : w.heap.size < w15.heap.size := by omega
    have hv15 : w.heap.size + 1 < w15.heap.size := by omega
    have hu15 : w.heap.size + 1 + 1 < w15.heap.size := by omega
    clear hb15 bc14 bf14 hz14 hy14 hv14 hu14
    have xP15 := HP15.out.lt
    have yP15a := HP15.out.cell 0 _ rfl
    have yP15b := HP15.out.cell 1 _ rfl
    have xQ15 := HQ15.out.lt
    have yQ15a := HQ15.out.cell 0 _ rfl
    have yQ15b := HQ15.out.cell 1 _ rfl
    have xR15 := HR15.out.lt
    have yR15a := HR15.out.cell 0 _ rfl
    have yR15b := HR15.out.cell 1 _ rfl
    have yR15c := HR15.out.cell 2 _ rfl
    rcases hone with rfl | ⟨rfl, l2, htr2⟩
    · skip
      go_wp2_with fail
      refine (reached_any _ (HN.out.mono (HB15.out))).mono ?_
      rintro e w99 ⟨rfl, hb99⟩
      go_wp2_with fail
      go_ret
      exact ⟨rfl, bTrans HB.out (bTrans (HB15.out) hb99)⟩
    have HTR2 := Lib.hid htr2
    obtain ⟨q0, q1⟩ := level_truth HOK2.out htr2 (w := well.toNat) (show (well.toNat : Int) < t.wells by omega)
    obtain ⟨r0, r1⟩ := level_more t sd well.toNat
    obtain ⟨a2, ha2⟩ : ∃ a2 : Nat, (t.sounded sd).low well.toNat = (a2 : Int) := ⟨((t.sounded sd).low well.toNat).toNat, by have := HAA.out; omega⟩
    obtain ⟨b2, hb2⟩ : ∃ b2 : Nat, (t.sounded sd).high well.toNat = (b2 : Int) := ⟨((t.sounded sd).high well.toNat).toNat, by have := HAA.out; omega⟩
    have m4 : ¬ a2 < a := by have := HAA.out; omega
    have m5 : ¬ b < b2 := by have := HBB.out; omega
    have m6 : ¬ b2 < a2 := by omega
    have HA2 := Lib.hid ha2
    have HB2 := Lib.hid hb2
    clear htr2 q0 q1 r0 r1 ha2 hb2
    go_wp2_with fail
    refine (Level_any _ _ _ _ (t.sounded sd) l2 well _ HOK2.out HTR2.out ⟨wl0, (show well < t.wells by omega)⟩ HO15.out).mono ?_
    rintro e w16 ⟨he, hb16⟩
    rw [HA2.out, HB2.out] at he
    subst he
    clear xP15 yP15a yP15b xQ15 yQ15a yQ15b xR15 yR15a yR15b yR15c
    have HB16 := Lib.hid (bTrans HB15.out hb16)
    have HP16 := Lib.hid (HP15.out.mono hb16)
    have HQ16 := Lib.hid (HQ15.out.mono hb16)
    have HR16 := Lib.hid (HR15.out.mono hb16)
    obtain ⟨bc16, bf16⟩ := bcell HB16.out
    have hz16 := HB16.out.size
    simp only [World.size_alloc] at hz16
    have hy16 : w.heap.size < w16.heap.size := by omega
    have hv16 : w.heap.size + 1 < w16.heap.size := by omega
    have hu16 : w.heap.size + 1 + 1 < w16.heap.size := by omega
    clear hb16 bc15 bf15 hz15 hy15 hv15 hu15
    have xP16 := HP16.out.lt
    have yP16a := HP16.out.cell 0 _ rfl
    have yP16b := HP16.out.cell 1 _ rfl
    have xQ16 := HQ16.out.lt
    have yQ16a := HQ16.out.cell 0 _ rfl
    have yQ16b := HQ16.out.cell 1 _ rfl
    have xR16 := HR16.out.lt
    have yR16a := HR16.out.cell 0 _ rfl
    have yR16b := HR16.out.cell 1 _ rfl
    have yR16c := HR16.out.cell 2 _ rfl
    go_wp2_with fail
    refine (prices_any _ _ _ _ S a2 b2 _ HSK.out (by omega) (by omega) (by omega) (by omega) (HS.out.mono (bTrans HB16.out (bAlloc (Below.refl _ _) _))) (HN.out.mono (bTrans HB16.out (bAlloc (Below.refl _ _) _)))).mono ?_
    rintro e w17 ⟨⟨mn2, mx2, is2, rfl, hp2⟩, hb17⟩
    have hb17 := bTrans (bAlloc (Below.refl w16.heap.size w16) _) hb17
    clear xP16 yP16a yP16b xQ16 yQ16a yQ16b xR16 yR16a yR16b yR16c
    have HB17 := Lib.hid (bTrans HB16.out hb17)
    have HP17 := Lib.hid (HP16.out.mono hb17)
    have HQ17 := Lib.hid (HQ16.out.mono hb17)
    have HR17 := Lib.hid (HR16.out.mono hb17)
    obtain ⟨bc17, bf17⟩ := bcell HB17.out
    have hz17 := HB17.out.size
    simp only [World.size_alloc] at hz17
    have hy17 : w.heap.size < w17.heap.size := by omega
    have hv17 : w.heap.size + 1 < w17.heap.size := by omega
    have hu17 : w.heap.size + 1 + 1 < w17.heap.size := by omega
    clear hb17 bc16 bf16 hz16 hy16 hv16 hu16
    have xP17 := HP17.out.lt
    have yP17a := HP17.out.cell 0 _ rfl
    have yP17b := HP17.out.cell 1 _ rfl
    have xQ17 := HQ17.out.lt
    have yQ17a := HQ17.out.cell 0 _ rfl
    have yQ17b := HQ17.out.cell 1 _ rfl
    have xR17 := HR17.out.lt
    have yR17a := HR17.out.cell 0 _ rfl
    have yR17b := HR17.out.cell 1 _ rfl
    have yR17c := HR17.out.cell 2 _ rfl
    have hlast : is2 = false ∨ (is2 = true ∧ is = true ∧ mn ≤ mn2 ∧ mx2 ≤ mx) := by
      cases is2
      · exact .inl rfl
      · right
        obtain ⟨_, ⟨d1, u1, u2, u3, u4⟩, ⟨d2, v1, v2, v3, v4⟩⟩ := hp2.some rfl
        have his : is = true := by
          have h := HPR.out.none
          cases is
          · exact absurd u3 (h rfl d1 (by omega) (by omega))
          · rfl
        have h := HPR.out.some his
        have k1 := h.1 d1 (by omega) (by omega) u3
        have k2 := h.1 d2 (by omega) (by omega) v3
        exact ⟨rfl, his, by omega, by omega⟩
    clear hp2
    rcases hlast with rfl | ⟨rfl, his, m7, m8⟩
    · skip
      go_wp2_with fail
      refine (reached_any _ (HN.out.mono (bTrans HB17.out (bAlloc (Below.refl _ _) _)))).mono ?_
      rintro e w99 ⟨rfl, hb99⟩
      go_wp2_with fail
      go_ret
      exact ⟨rfl, bTrans HB.out (bTrans (bTrans HB17.out (bAlloc (Below.refl _ _) _)) hb99)⟩
    · first | subst his | skip
      go_wp2_with fail
      refine (reached_any _ (HN.out.mono (bTrans HB17.out (bAlloc (Below.refl _ _) _)))).mono ?_
      rintro e w99 ⟨rfl, hb99⟩
      go_wp2_with fail
      go_ret
      exact ⟨rfl, bTrans HB.out (bTrans (bTrans HB17.out (bAlloc (Below.refl _ _) _)) hb99)⟩
end Go.Proofs.YtdboicnlkbnbnaaDoor
