/- Parts joined. -/
import Derived.Test.YtjpfdhhiofjpbaaGreatDoorNPA
set_option linter.unusedSimpArgs false
set_option linter.unusedVariables false
/- A region that draws its order: values told by shapes, then one operation that may turn what was there before the region, beside it some that are copies of what stood, then a tail. No program in sight. -/
namespace Go.Proofs.YtjpfdhhiofjpbaaGreatDoor
open Go.RowKit Go.Sort
section
variable {P : Program} {ops : Array Oper} {md : Region.Mode}
end
end Go.Proofs.YtjpfdhhiofjpbaaGreatDoor
/- Towns of quarrels as data, how they read in memory, which of them are valid. No program in sight but the layout. -/
namespace Go.Proofs.YtjpfdhhiofjpbaaGreatDoor
open Go.RowKit Go.Sort
structure Fact where
  (from_ many to_ low high : Int)
/-- a world: its rows, how long they are, their numbers -/
structure Wd where
  n : Nat
  len : Nat → Nat
  fall : Nat → Nat → Int
/-- a town of quarrels, as data -/
structure Qt where
  wells : Int
  nw : Nat
  world : Nat → Wd
  nf : Nat
  fact : Nat → Fact
structure Wd.Ok (m : Int) (x : Wd) : Prop where
  n : (x.n : Int) = m
  len : ∀ k, k < x.n → (x.len k : Int) = m
  fall : ∀ k, k < x.n → ∀ j, j < x.len k → 0 ≤ x.fall k j ∧ x.fall k j ≤ 9
structure Fact.Ok (m : Int) (f : Fact) : Prop where
  f0 : 0 ≤ f.from_
  f1 : f.from_ < m
  t0 : 0 ≤ f.to_
  t1 : f.to_ < m
  m0 : 1 ≤ f.many
  m1 : f.many ≤ 9
  l0 : 0 ≤ f.low
  l1 : f.low ≤ f.high
  h1 : f.high ≤ 99
structure Qt.Ok (t : Qt) : Prop where
  w0 : 0 ≤ t.wells
  w1 : t.wells ≤ 4
  nw : t.nw ≤ 6
  nf : t.nf ≤ 6
  world : ∀ i, i < t.nw → (t.world i).Ok t.wells
  fact : ∀ i, i < t.nf → (t.fact i).Ok t.wells
open Classical in
noncomputable def Wd.okB (m : Int) (x : Wd) : Bool := decide (x.Ok m)
theorem Wd.okB_t {m : Int} {x : Wd} (h : x.Ok m) : x.okB m = true := by unfold Wd.okB; simpa using h
theorem Wd.okB_f {m : Int} {x : Wd} (h : ¬ x.Ok m) : x.okB m = false := by unfold Wd.okB; simpa using h
theorem Wd.okB_iff {m : Int} {x : Wd} : x.okB m = true ↔ x.Ok m := by unfold Wd.okB; simp
open Classical in
noncomputable def Qt.err (t : Qt) : Int := if t.Ok then 0 else 50
theorem Qt.err_ok {t : Qt} (h : t.Ok) : t.err = 0 := if_pos h
theorem Qt.err_bad {t : Qt} (h : ¬ t.Ok) : t.err = 50 := if_neg h
/-! ### How they read in memory -/
def RowsAt (w : World) (A : Option Addr) (x : Wd) : Prop :=
  x.n = 0 ∨ ∃ b o, A = some ⟨b, o, none⟩ ∧ b < w.heap.size ∧ ∀ k, k < x.n → ∃ A' c', w.cell? ⟨b, o + k, none⟩ = some (.slice A' (x.len k) c') ∧ IntsAt w A' (x.len k) (x.fall k) ∧ x.len k ≤ 9223372036854775807
theorem RowsAt.mono {w w' : World} {A : Option Addr} {x : Wd} (h : RowsAt w A x) (hb : Below w.heap.size w w') : RowsAt w' A x := by
  rcases h with h | ⟨b, o, rfl, hlt, hc⟩
  · exact .inl h
  · refine .inr ⟨b, o, rfl, Nat.lt_of_lt_of_le hlt hb.size, fun k hk => ?_⟩
    obtain ⟨A', c', h1, h2, h3⟩ := hc k hk
    exact ⟨A', c', (hb.cell (p := ⟨b, _, none⟩) hlt).trans h1, h2.mono hb, h3⟩
def WorldsAt (w : World) (A : Option Addr) (n : Nat) (f : Nat → Wd) : Prop :=
  n = 0 ∨ ∃ b o, A = some ⟨b, o, none⟩ ∧ b < w.heap.size ∧ ∀ i, i < n → ∃ A' c', w.cell? ⟨b, o + i, none⟩ = some (.slice A' (f i).n c') ∧ RowsAt w A' (f i) ∧ (f i).n ≤ 9223372036854775807
theorem WorldsAt.mono {w w' : World} {A : Option Addr} {n : Nat} {f : Nat → Wd} (h : WorldsAt w A n f) (hb : Below w.heap.size w w') : WorldsAt w' A n f := by
  rcases h with h | ⟨b, o, rfl, hlt, hc⟩
  · exact .inl h
  · refine .inr ⟨b, o, rfl, Nat.lt_of_lt_of_le hlt hb.size, fun k hk => ?_⟩
    obtain ⟨A', c', h1, h2, h3⟩ := hc k hk
    exact ⟨A', c', (hb.cell (p := ⟨b, _, none⟩) hlt).trans h1, h2.mono hb, h3⟩
def FactsAt (w : World) (A : Option Addr) (n : Nat) (f : Nat → Fact) : Prop :=
  n = 0 ∨ ∃ b o, A = some ⟨b, o, none⟩ ∧ b < w.heap.size ∧ ∀ i, i < n → w.cell? ⟨b, o + i * 5, none⟩ = some (.int .i64 (f i).from_) ∧ w.cell? ⟨b, o + i * 5 + 1, none⟩ = some (.int .i64 (f i).many) ∧ w.cell? ⟨b, o + i * 5 + 2, none⟩ = some (.int .i64 (f i).to_) ∧ w.cell? ⟨b, o + i * 5 + 3, none⟩ = some (.int .i64 (f i).low) ∧ w.cell? ⟨b, o + i * 5 + 4, none⟩ = some (.int .i64 (f i).high)
theorem FactsAt.mono {w w' : World} {A : Option Addr} {n : Nat} {f : Nat → Fact} (h : FactsAt w A n f) (hb : Below w.heap.size w w') : FactsAt w' A n f := by
  rcases h with h | ⟨b, o, rfl, hlt, hc⟩
  · exact .inl h
  · exact .inr ⟨b, o, rfl, Nat.lt_of_lt_of_le hlt hb.size, fun i hi => ⟨(hb.cell (p := ⟨b, _, none⟩) hlt).trans (hc i hi).1, (hb.cell (p := ⟨b, _, none⟩) hlt).trans (hc i hi).2.1, (hb.cell (p := ⟨b, _, none⟩) hlt).trans (hc i hi).2.2.1, (hb.cell (p := ⟨b, _, none⟩) hlt).trans (hc i hi).2.2.2.1, (hb.cell (p := ⟨b, _, none⟩) hlt).trans (hc i hi).2.2.2.2⟩⟩
structure QAt (w : World) (Aw Af : Option Addr) (t : Qt) : Prop where
  worlds : WorldsAt w Aw t.nw t.world
  facts : FactsAt w Af t.nf t.fact
theorem QAt.mono {w w' : World} {Aw Af : Option Addr} {t : Qt} (h : QAt w Aw Af t) (hb : Below w.heap.size w w') : QAt w' Aw Af t := ⟨h.worlds.mono hb, h.facts.mono hb⟩
/-- one number of one world: where it stands -/
theorem WorldsAt.get {w : World} {A : Option Addr} {n : Nat} {f : Nat → Wd} (h : WorldsAt w A n f) {i k j : Nat} (hi : i < n) (hk : k < (f i).n) (hj : j < (f i).len k) :
    ∃ b o b' o' c' b'' o'' c'', A = some ⟨b, o, none⟩ ∧ b < w.heap.size ∧ w.cell? ⟨b, o + i, none⟩ = some (.slice (some ⟨b', o', none⟩) (f i).n c') ∧ b' < w.heap.size ∧ w.cell? ⟨b', o' + k, none⟩ = some (.slice (some ⟨b'', o'', none⟩) ((f i).len k) c'') ∧ b'' < w.heap.size ∧ w.cell? ⟨b'', o'' + j, none⟩ = some (.int .i64 ((f i).fall k j)) := by
  rcases h with h | ⟨b, o, rfl, hlt, hc⟩
  · omega
  · obtain ⟨A', c', h1, h2, _⟩ := hc i hi
    rcases h2 with h2 | ⟨b', o', rfl, hlt', hc'⟩
    · omega
    · obtain ⟨A'', c'', h3, h4, _⟩ := hc' k hk
      obtain ⟨b'', o'', rfl, hlt'', h5⟩ := h4.get hj
      exact ⟨b, o, b', o', c', b'', o'', c'', rfl, hlt, h1, hlt', h3, hlt'', h5⟩
/-! ### What is left -/
/-- whether a world agrees with a fact -/
def Wd.agrees (x : Wd) (f : Fact) : Bool := inR (x.fall f.from_.toNat f.to_.toNat * f.many) f.low f.high
/-- whether a world is left -/
def Qt.leftB (t : Qt) (i : Nat) : Bool := !anyB (fun j => !(t.world i).agrees (t.fact j)) t.nf
/-- the worlds that are left, of the first n -/
def Qt.leftTo (t : Qt) : Nat → List Int
  | 0 => []
  | n + 1 => if t.leftB n then t.leftTo n ++ [(n : Int)] else t.leftTo n
def Qt.leftL (t : Qt) : List Int := t.leftTo t.nw
theorem leftTo_len (t : Qt) : ∀ n, (t.leftTo n).length ≤ n
  | 0 => Nat.le_refl _
  | n + 1 => by
    have := leftTo_len t n
    unfold Qt.leftTo
    split
    · rw [List.length_append]; simp; omega
    · omega
theorem leftTo_mem (t : Qt) {x : Int} : ∀ n, x ∈ t.leftTo n ↔ ∃ i : Nat, i < n ∧ t.leftB i = true ∧ x = i
  | 0 => by simp [Qt.leftTo]
  | n + 1 => by
    have ih := leftTo_mem t (x := x) n
    unfold Qt.leftTo
    split
    · rename_i h
      rw [List.mem_append, ih]
      constructor
      · rintro (⟨i, h1, h2, h3⟩ | h1)
        · exact ⟨i, by omega, h2, h3⟩
        · exact ⟨n, by omega, h, by simpa using h1⟩
      · rintro ⟨i, h1, h2, h3⟩
        rcases Nat.lt_or_ge i n with h4 | h4
        · exact .inl ⟨i, h4, h2, h3⟩
        · obtain rfl : i = n := by omega
          exact .inr (by simpa using h3)
    · rename_i h
      rw [ih]
      constructor
      · rintro ⟨i, h1, h2, h3⟩
        exact ⟨i, by omega, h2, h3⟩
      · rintro ⟨i, h1, h2, h3⟩
        rcases Nat.lt_or_ge i n with h4 | h4
        · exact ⟨i, h4, h2, h3⟩
        · obtain rfl : i = n := by omega
          exact absurd h2 h
end Go.Proofs.YtjpfdhhiofjpbaaGreatDoor
/- Walks of the reference of quarrels: within, IsWell, isWorld, Agrees. Conditions: lengths are Go's; of Agrees: a valid town. -/
namespace Go.Proofs.YtjpfdhhiofjpbaaGreatDoor
open Go.RowKit Go.Sort
theorem within5_b (n lo hi : Int) (b : Bool) (w : World) (h : inR n lo hi = b) : Calls Tryz.prog 129 #[.int .i64 n, .int .i64 lo, .int .i64 hi] w fun e w' => e = .returned (.bool b) ∧ w = w' := by
  have H := Lib.hid h
  clear h
  go_enter Tryz.func129, Tryz.ntmps129
  go_wp2_with fail
  refine (within_b _ _ _ _ _ H.out).mono ?_
  rintro e w' ⟨rfl, rfl⟩
  go_wp2_with fail
  go_ret
  exact ⟨rfl, rfl⟩
theorem within5_bb (n lo hi : Int) (b : Bool) (w : World) (h : inR n lo hi = b) : Calls Tryz.prog 129 #[.int .i64 n, .int .i64 lo, .int .i64 hi] w fun e w' => e = .returned (.bool b) ∧ Below w.heap.size w w' :=
  (within5_b n lo hi b w h).mono fun e w' ⟨he, hw⟩ => ⟨he, by rw [hw]; exact Below.refl _ _⟩
theorem isWell5_b (Aw Af : Option Addr) (cw cf : Nat) (t : Qt) (n : Int) (b : Bool) (w : World) (h0 : 0 ≤ t.wells) (h1 : t.wells ≤ 4) (h : inR n 0 (t.wells - 1) = b) :
    Calls Tryz.prog 116 #[.agg #[.int .i64 t.wells, .slice Aw t.nw cw, .slice Af t.nf cf], .int .i64 n] w fun e w' => e = .returned (.bool b) ∧ Below w.heap.size w w' := by
  have H := Lib.hid h
  clear h
  go_enter Tryz.func116, Tryz.ntmps116
  go_wp2_with fail
  refine (within5_b _ _ _ _ _ H.out).mono ?_
  rintro e w' ⟨rfl, rfl⟩
  go_wp2_with fail
  go_ret
  exact ⟨rfl, bAlloc (Below.refl _ _) _⟩
set_option maxHeartbeats 4000000 in
set_option maxRecDepth 100000 in
theorem isWorld_any (Aw Af A : Option Addr) (cw cf c : Nat) (t : Qt) (x : Wd) (w : World) (hn : x.n ≤ 9223372036854775807) (hX : RowsAt w A x) :
    Calls Tryz.prog 130 #[.agg #[.int .i64 t.wells, .slice Aw t.nw cw, .slice Af t.nf cf], .agg #[.slice A x.n c]] w fun e w' => e = .returned (.bool (x.okB t.wells)) ∧ Below w.heap.size w w' := by
  have hb0 := bAlloc (bAlloc (Below.refl w.heap.size w) (.cells #[.int .i64 t.wells, .slice Aw t.nw cw, .slice Af t.nf cf] 25)) (.cells #[.slice A x.n c] 128)
  have HX := Lib.hid (hX.mono hb0)
  have HB := Lib.hid hb0
  clear hX hb0
  by_cases hnw : (x.n : Int) = t.wells
  case neg =>
    have h1 : ((x.n : Int) != t.wells) = true := bne_iff_ne.2 hnw
    have HE := Lib.hid (Wd.okB_f fun h => hnw h.n)
    clear hnw
    go_enter Tryz.func130, Tryz.ntmps130
    go_wp2_with fail
    go_ret
    exact ⟨by rw [HE.out]; rfl, HB.out⟩
  have h1 : ((x.n : Int) != t.wells) = false := by rw [hnw]; simp
  have HNW := Lib.hid hnw
  clear hnw
  go_enter Tryz.func130, Tryz.ntmps130
  go_wp2_with fail
  clear h1
  go_loopw [5] (fun i wr => ∃ k : Nat, i = .int .i64 k ∧ k ≤ x.n ∧ (∀ j, j < k → (x.len j : Int) = t.wells ∧ ∀ m, m < x.len j → 0 ≤ x.fall j m ∧ x.fall j m ≤ 9) ∧ Below ((w.alloc (.cells #[.int .i64 t.wells, .slice Aw t.nw cw, .slice Af t.nf cf] 25)).alloc (.cells #[.slice A x.n c] 128)).heap.size ((w.alloc (.cells #[.int .i64 t.wells, .slice Aw t.nw cw, .slice Af t.nf cf] 25)).alloc (.cells #[.slice A x.n c] 128)) wr) (fun i _ => x.n - (intOf i).toNat)
  case atStart => exact ⟨0, rfl, Nat.zero_le _, fun j hj => absurd hj (Nat.not_lt_zero _), Below.refl _ _⟩
  case round =>
    obtain ⟨k, rfl, hk, hall, hbel⟩ := hrel
    have HALL := Lib.hid hall
    have HL3 := Lib.hid hbel
    obtain ⟨bc3, bf3⟩ := bcell hbel
    have hz3 := hbel.size
    simp only [World.size_alloc] at hz3
    have hy3 : w.heap.size < wr.heap.size := by omega
    have hv3 : w.heap.size + 1 < wr.heap.size := by omega
    clear hbel hall
    by_cases hlt : k < x.n
    · rcases HX.out.mono HL3.out with h0 | ⟨b, o, hA, hb, hcell⟩
      · omega
      obtain ⟨A', c', c0, hrow, hlen⟩ := hcell k hlt
      have HR := Lib.hid hrow
      have k1 : (k : Int) < (x.n : Int) := by omega
      have HK := Lib.hid hlt
      clear hcell hrow
      subst hA
      obtain ⟨m, hm⟩ : ∃ m, x.len k = m := ⟨_, rfl⟩
      rw [hm] at c0 hlen
      have HM := Lib.hid hm
      clear hm
      by_cases hlw : (m : Int) = t.wells
      case neg =>
        have h1 : ((m : Int) != t.wells) = true := bne_iff_ne.2 hlw
        have HE := Lib.hid (Wd.okB_f (m := t.wells) (x := x) fun h => hlw (by have := h.len k HK.out; rw [HM.out] at this; exact this))
        clear hlw
        go_wp2_with fail
        refine wp_region_quiet_below (by kernel_rfl) (by kernel_rfl) ?_
        repeat (go_big_quiet_step ((fail)))
        refine wpQuiet_nil ?_
        intro w9 hw9
        have HB9 := Lib.hid (below_of_regrown hw9)
        clear hw9
        go_wp2_with fail
        go_ret
        exact ⟨by rw [HE.out]; rfl, bTrans HB.out (bTrans HL3.out HB9.out)⟩
      have h1 : ((m : Int) != t.wells) = false := by rw [hlw]; simp
      have HLW := Lib.hid hlw
      clear hlw
      go_wp2_with fail
      refine wp_region_quiet_below (by kernel_rfl) (by kernel_rfl) ?_
      repeat (go_big_quiet_step ((fail)))
      refine wpQuiet_nil ?_
      intro w9 hw9
      have hb9 := below_of_regrown hw9
      have HL9 := Lib.hid (bTrans HL3.out hb9)
      obtain ⟨bc9, bf9⟩ := bcell HL9.out
      have hz9 := HL9.out.size
      simp only [World.size_alloc] at hz9
      have hy9 : w.heap.size < w9.heap.size := by omega
      have hv9 : w.heap.size + 1 < w9.heap.size := by omega
      have d0 := (hb9.cell (p := ⟨b, o + k, none⟩) hb).trans c0
      have hb' : b < w9.heap.size := Nat.lt_of_lt_of_le hb hb9.size
      have HR9 := Lib.hid (HR.out.mono hb9)
      clear hw9 hb9 h1 bc3 bf3 hz3 hy3 hv3 c0 hb
      rw [HM.out] at HR9
      go_wp2_with fail
      go_loopw [6] (fun i wr => ∃ q : Nat, i = .int .i64 q ∧ q ≤ m ∧ (∀ j, j < q → 0 ≤ x.fall k j ∧ x.fall k j ≤ 9) ∧ Below w9.heap.size w9 wr) (fun i _ => m - (intOf i).toNat)
      case atStart => exact ⟨0, rfl, Nat.zero_le _, fun j hj => absurd hj (Nat.not_lt_zero _), Below.refl _ _⟩
      case round =>
        obtain ⟨q, rfl, hq, hall, hbel⟩ := hrel
        have HQA := Lib.hid hall
        have HL4 := Lib.hid hbel
        obtain ⟨bc4, bf4⟩ := bcell hbel
        have hz4 := hbel.size
        have hy4 : w.heap.size < wr.heap.size := by omega
        have hv4 : w.heap.size + 1 < wr.heap.size := by omega
        have hb4 : b < wr.heap.size := by omega
        clear hbel hall
        by_cases hqm : q < m
        · obtain ⟨b5, o5, hA5, hl5, c5⟩ := (HR9.out.mono HL4.out).get hqm
          have q1 : (q : Int) < (m : Int) := by omega
          have HQ := Lib.hid hqm
          subst hA5
          cases hin : inR (x.fall k q) 0 9
          · have G1 := Lib.hid hin
            have HE := Lib.hid (Wd.okB_f (m := t.wells) (x := x) fun h => by
              have := h.fall k HK.out q (by rw [HM.out]; exact HQ.out)
              rw [inR_t this] at hin
              cases hin)
            clear hin
            go_wp2_with fail
            refine (within5_b _ _ _ _ _ G1.out).mono ?_
            rintro e w' ⟨rfl, rfl⟩
            go_wp2_with fail
            go_ret
            exact ⟨by rw [HE.out]; rfl, bTrans HB.out (bTrans HL9.out HL4.out)⟩
          · have G1 := Lib.hid hin
            clear hin
            have HQ2 := Lib.hid (show ∀ j, j < q + 1 → 0 ≤ x.fall k j ∧ x.fall k j ≤ 9 from fun j hj => by
              rcases Nat.lt_or_ge j q with h1 | h1
              · exact HQA.out j h1
              · obtain rfl : j = q := by omega
                exact inR_iff.1 G1.out)
            go_wp2_with fail
            refine (within5_b _ _ _ _ _ G1.out).mono ?_
            rintro e w' ⟨rfl, rfl⟩
            go_wp2_with fail
            go_roundw
            case rel =>
              first
              | exact ⟨q + 1, by go_num, by omega, HQ2.out, HL4.out⟩
              | ((repeat apply Exists.intro)
                 refine ⟨⟨q + 1, ?_, by omega, HQ2.out, HL4.out⟩, rfl⟩
                 go_num)
            case measure => simp [intOf]; omega
        · obtain rfl : q = m := by omega
          have HA2 := Lib.hid (show ∀ j, j < k + 1 → (x.len j : Int) = t.wells ∧ ∀ m, m < x.len j → 0 ≤ x.fall j m ∧ x.fall j m ≤ 9 from fun j hj => by
            rcases Nat.lt_or_ge j k with h1 | h1
            · exact HALL.out j h1
            · obtain rfl : j = k := by omega
              rw [HM.out]
              exact ⟨HLW.out, HQA.out⟩)
          have HL10 := Lib.hid (bTrans HL9.out HL4.out)
          go_wp2_with fail
          go_roundw
          case rel =>
            first
            | exact ⟨k + 1, by go_num, by omega, HA2.out, HL10.out⟩
            | ((repeat apply Exists.intro)
               refine ⟨⟨k + 1, ?_, by omega, HA2.out, HL10.out⟩, rfl⟩
               go_num)
          case measure => simp [intOf]; omega
    · obtain rfl : x.n = k := by omega
      have HE := Lib.hid (Wd.okB_t (m := t.wells) (x := x) ⟨HNW.out, fun j hj => (HALL.out j hj).1, fun j hj => (HALL.out j hj).2⟩)
      go_wp2_with fail
      go_ret
      exact ⟨by rw [HE.out]; rfl, bTrans HB.out HL3.out⟩
end Go.Proofs.YtjpfdhhiofjpbaaGreatDoor
/- Walks of the reference of quarrels: Agrees, Check, ask, LeftOf. Conditions: lengths are Go's; of Agrees and LeftOf: a valid town. -/
namespace Go.Proofs.YtjpfdhhiofjpbaaGreatDoor
open Go.RowKit Go.Sort
theorem mul_bd {v m : Int} (v0 : 0 ≤ v) (v1 : v ≤ 9) (m0 : 0 ≤ m) (m1 : m ≤ 9) : 0 ≤ v * m ∧ v * m ≤ 81 :=
  ⟨Int.mul_nonneg v0 m0, Int.le_trans (Int.mul_le_mul v1 m1 m0 (by decide)) (by decide)⟩
/-- a fall of a valid town: where it stands, and its bounds -/
theorem Qt.Ok.at {w : World} {Aw Af : Option Addr} {t : Qt} (ok : t.Ok) (hT : QAt w Aw Af t) {i : Nat} (hi : i < t.nw) {p q : Int} (p0 : 0 ≤ p) (p1 : p < t.wells) (q0 : 0 ≤ q) (q1 : q < t.wells) :
    ∃ b o b' o' c' b'' o'' c'' n m v, Aw = some ⟨b, o, none⟩ ∧ b < w.heap.size ∧ w.cell? ⟨b, o + i, none⟩ = some (.slice (some ⟨b', o', none⟩) n c') ∧ b' < w.heap.size ∧ w.cell? ⟨b', o' + p.toNat, none⟩ = some (.slice (some ⟨b'', o'', none⟩) m c'') ∧ b'' < w.heap.size ∧ w.cell? ⟨b'', o'' + q.toNat, none⟩ = some (.int .i64 v) ∧
      v = (t.world i).fall p.toNat q.toNat ∧ 0 ≤ v ∧ v ≤ 9 ∧ (n : Int) = t.wells ∧ (m : Int) = t.wells := by
  have hw := ok.world i hi
  have hk : p.toNat < (t.world i).n := by have := hw.n; omega
  have hl := hw.len _ hk
  have hj : q.toNat < (t.world i).len p.toNat := by omega
  obtain ⟨b, o, b', o', c', b'', o'', c'', a1, a2, a3, a4, a5, a6, a7⟩ := hT.worlds.get hi hk hj
  have hf := hw.fall _ hk _ hj
  exact ⟨b, o, b', o', c', b'', o'', c'', _, _, _, a1, a2, a3, a4, a5, a6, a7, rfl, hf.1, hf.2, hw.n, hl⟩
set_option maxHeartbeats 4000000 in
set_option maxRecDepth 100000 in
theorem agrees5_any (Aw Af : Option Addr) (cw cf : Nat) (t : Qt) (i : Nat) (f : Fact) (w : World) (ok : t.Ok) (hi : i < t.nw) (hf : f.Ok t.wells) (hT : QAt w Aw Af t) :
    Calls Tryz.prog 131 #[.agg #[.int .i64 t.wells, .slice Aw t.nw cw, .slice Af t.nf cf], .int .i64 i, .agg #[.int .i64 f.from_, .int .i64 f.many, .int .i64 f.to_, .int .i64 f.low, .int .i64 f.high]] w fun e w' => e = .returned (.bool ((t.world i).agrees f)) ∧ Below w.heap.size w w' := by
  obtain ⟨b, o, b', o', c', b'', o'', c'', n, m, v, rfl, a2, a3, a4, a5, a6, a7, hv, v0, v1, hn, hm⟩ := ok.at hT hi hf.f0 hf.f1 hf.t0 hf.t1
  obtain ⟨p, hp⟩ : ∃ p : Nat, f.from_ = (p : Int) := ⟨f.from_.toNat, by have := hf.f0; omega⟩
  obtain ⟨q, hq⟩ : ∃ q : Nat, f.to_ = (q : Int) := ⟨f.to_.toNat, by have := hf.t0; omega⟩
  obtain ⟨k, hk⟩ : ∃ k, f.many = k := ⟨_, rfl⟩
  have k0 := hf.m0
  have k1 := hf.m1
  have hp1 := hf.f1
  have hq1 := hf.t1
  rw [hk] at k0 k1
  have hpp : f.from_.toNat = p := by omega
  have hqq : f.to_.toNat = q := by omega
  rw [hpp] at a5 hv
  rw [hqq] at a7 hv
  have hbd := mul_bd v0 v1 (by omega : 0 ≤ k) k1
  obtain ⟨r, hr⟩ : ∃ r, inR (v * k) f.low f.high = r := ⟨_, rfl⟩
  have HR := Lib.hid hr
  have HE := Lib.hid (show (t.world i).agrees f = r by unfold Wd.agrees; rw [hpp, hqq, ← hv, hk, hr])
  have HB := Lib.hid (bAlloc (bAlloc (Below.refl w.heap.size w) (.cells #[.int .i64 t.wells, .slice (some ⟨b, o, none⟩) t.nw cw, .slice Af t.nf cf] 25)) (.cells #[.int .i64 p, .int .i64 k, .int .i64 q, .int .i64 f.low, .int .i64 f.high] 64))
  rw [hp, hq, hk]
  rw [hp] at hp1
  rw [hq] at hq1
  have p1 : (p : Int) < (n : Int) := by omega
  have p0 : (0 : Int) ≤ (p : Int) := by omega
  have q1 : (q : Int) < (m : Int) := by omega
  have q0 : (0 : Int) ≤ (q : Int) := by omega
  have i1 : (i : Int) < (t.nw : Int) := by omega
  have i0 : (0 : Int) ≤ (i : Int) := by omega
  have a2' : b < w.heap.size + 1 + 1 := by omega
  have a4' : b' < w.heap.size + 1 + 1 := by omega
  have a6' : b'' < w.heap.size + 1 + 1 := by omega
  have HBD := Lib.hid hbd
  clear hf hr hv hp hq hk hn hm hpp hqq hbd hi ok hT hp1 hq1
  have e1 : IntKind.i64.wrap (v * k) = v * k := IntWalk.i64_in _ (by have := HBD.out; omega)
  go_enter Tryz.func131, Tryz.ntmps131
  go_wp2_with fail
  refine wp_region_quiet_below (by kernel_rfl) (by kernel_rfl) ?_
  repeat (go_big_quiet_step ((go_at_call 129; exact Calls.regrown_of (within5_bb _ _ _ _ _ HR.out))))
  refine wpQuiet_nil ?_
  intro w9 hw9
  have HB9 := Lib.hid (below_of_regrown hw9)
  clear hw9 e1
  go_wp2_with fail
  go_ret
  exact ⟨by rw [HE.out]; rfl, bTrans HB.out HB9.out⟩
end Go.Proofs.YtjpfdhhiofjpbaaGreatDoor
/- Walks of the reference of quarrels: Check, ask. Condition: lengths are Go's. -/
namespace Go.Proofs.YtjpfdhhiofjpbaaGreatDoor
open Go.RowKit Go.Sort
theorem fact_cases (n : Int) (s : Fact) : (s.Ok n ∧ inR s.from_ 0 (n - 1) = true ∧ inR s.to_ 0 (n - 1) = true ∧ inR s.many 1 9 = true ∧ inR s.high 0 99 = true ∧ inR s.low 0 s.high = true) ∨
    (¬ s.Ok n ∧ ((inR s.from_ 0 (n - 1) = false) ∨ (inR s.from_ 0 (n - 1) = true ∧ inR s.to_ 0 (n - 1) = false) ∨ (inR s.from_ 0 (n - 1) = true ∧ inR s.to_ 0 (n - 1) = true ∧ inR s.many 1 9 = false) ∨
      (inR s.from_ 0 (n - 1) = true ∧ inR s.to_ 0 (n - 1) = true ∧ inR s.many 1 9 = true ∧ inR s.high 0 99 = false) ∨ (inR s.from_ 0 (n - 1) = true ∧ inR s.to_ 0 (n - 1) = true ∧ inR s.many 1 9 = true ∧ inR s.high 0 99 = true ∧ inR s.low 0 s.high = false))) := by
  cases h1 : inR s.from_ 0 (n - 1)
  · exact .inr ⟨(fun h => by rw [inR_t ⟨h.f0, by have := h.f1; omega⟩] at h1; cases h1), .inl rfl⟩
  · cases h2 : inR s.to_ 0 (n - 1)
    · exact .inr ⟨(fun h => by rw [inR_t ⟨h.t0, by have := h.t1; omega⟩] at h2; cases h2), .inr (.inl ⟨rfl, rfl⟩)⟩
    · cases h3 : inR s.many 1 9
      · exact .inr ⟨(fun h => by rw [inR_t ⟨h.m0, h.m1⟩] at h3; cases h3), .inr (.inr (.inl ⟨rfl, rfl, rfl⟩))⟩
      · cases h4 : inR s.high 0 99
        · exact .inr ⟨(fun h => by rw [inR_t ⟨by have := h.l0; have := h.l1; omega, h.h1⟩] at h4; cases h4), .inr (.inr (.inr (.inl ⟨rfl, rfl, rfl, rfl⟩)))⟩
        · cases h5 : inR s.low 0 s.high
          · exact .inr ⟨(fun h => by rw [inR_t ⟨h.l0, h.l1⟩] at h5; cases h5), .inr (.inr (.inr (.inr ⟨rfl, rfl, rfl, rfl, rfl⟩)))⟩
          · have a := inR_iff.1 h1
            have b := inR_iff.1 h2
            have c := inR_iff.1 h3
            have d := inR_iff.1 h4
            have e := inR_iff.1 h5
            exact .inl ⟨⟨a.1, by omega, b.1, by omega, c.1, c.2, e.1, e.2, d.2⟩, rfl, rfl, rfl, rfl, rfl⟩
set_option maxHeartbeats 8000000 in
set_option maxRecDepth 100000 in
theorem refCheck5 (Aw Af : Option Addr) (cw cf : Nat) (t : Qt) (w : World) (hs : t.nw ≤ 9223372036854775807) (hl : t.nf ≤ 9223372036854775807) (hT : QAt w Aw Af t) :
    Calls Tryz.prog 74 #[.agg #[.int .i64 t.wells, .slice Aw t.nw cw, .slice Af t.nf cf]] w fun e w' => e = .returned (.int .i64 t.err) ∧ Below w.heap.size w w' := by
  have hb0 := bAlloc (Below.refl w.heap.size w) (.cells #[.int .i64 t.wells, .slice Aw t.nw cw, .slice Af t.nf cf] 25)
  have HT := Lib.hid (hT.mono hb0)
  have HB := Lib.hid hb0
  clear hT hb0
  by_cases hgo : inR t.wells 0 4 = true ∧ t.nw ≤ 6 ∧ t.nf ≤ 6
  · obtain ⟨hw, nw6, nf6⟩ := hgo
    obtain ⟨w0, w1⟩ := inR_iff.1 hw
    have HW := Lib.hid hw
    have m1 : ¬ (6 : Int) < (t.nw : Int) := by omega
    have m2 : ¬ (6 : Int) < (t.nf : Int) := by omega
    clear hw
    go_enter Tryz.func74, Tryz.ntmps74
    go_wp2_with fail
    refine (within5_b _ _ _ _ _ HW.out).mono ?_
    rintro e w' ⟨rfl, rfl⟩
    go_wp2_with fail
    go_loopw [3] (fun i wr => ∃ k : Nat, i = .int .i64 k ∧ k ≤ t.nw ∧ (∀ j, j < k → (t.world j).Ok t.wells) ∧ Below (w.alloc (.cells #[.int .i64 t.wells, .slice Aw t.nw cw, .slice Af t.nf cf] 25)).heap.size (w.alloc (.cells #[.int .i64 t.wells, .slice Aw t.nw cw, .slice Af t.nf cf] 25)) wr) (fun i _ => t.nw - (intOf i).toNat)
    case atStart => exact ⟨0, rfl, Nat.zero_le _, fun j hj => absurd hj (Nat.not_lt_zero _), Below.refl _ _⟩
    case round =>
      obtain ⟨k, rfl, hk, hall, hbel⟩ := hrel
      have HALL := Lib.hid hall
      have HL3 := Lib.hid hbel
      obtain ⟨bc3, bf3⟩ := bcell hbel
      have hz3 := hbel.size
      simp only [World.size_alloc] at hz3
      have hy3 : w.heap.size < wr.heap.size := hz3
      clear hbel hall
      by_cases hlt : k < t.nw
      · rcases (HT.out.mono HL3.out).worlds with h0 | ⟨b, o, hA, hb, hcell⟩
        · omega
        obtain ⟨A', c', c0, hrow, hlen⟩ := hcell k hlt
        have HR := Lib.hid hrow
        have HLEN := Lib.hid hlen
        have k1 : (k : Int) < (t.nw : Int) := by omega
        have HK := Lib.hid hlt
        clear hcell hrow hlen
        subst hA
        obtain ⟨bk, hbk⟩ : ∃ bk, (t.world k).okB t.wells = bk := ⟨_, rfl⟩
        have HBK := Lib.hid hbk
        have HCW := Lib.hid (fun (w' : World) (hb : Below wr.heap.size wr w') => (by
          have := isWorld_any (some ⟨b, o, none⟩) Af A' cw cf c' t (t.world k) w' HLEN.out (HR.out.mono hb)
          rw [hbk] at this
          exact this : Calls Tryz.prog 130 #[.agg #[.int .i64 t.wells, .slice (some ⟨b, o, none⟩) t.nw cw, .slice Af t.nf cf], .agg #[.slice A' (t.world k).n c']] w' fun e w'' => e = .returned (.bool bk) ∧ Below w'.heap.size w' w''))
        clear hbk
        go_wp2_with fail
        refine wp_region_quiet_below (by kernel_rfl) (by kernel_rfl) ?_
        repeat (go_big_quiet_step ((go_at_call 130; exact Calls.regrown_of (HCW.out _ (below_regrown _ _ _)))))
        refine wpQuiet_nil ?_
        intro w9 hw9
        have HL9 := Lib.hid (bTrans HL3.out (below_of_regrown hw9))
        clear hw9 c0 hb bc3 bf3
        cases bk
        · have HNO := Lib.hid (Qt.err_bad (t := t) fun h => by have := Wd.okB_t (h.world k HK.out); rw [HBK.out] at this; cases this)
          go_wp2_with fail
          go_ret
          exact ⟨by rw [HNO.out]; rfl, bTrans HB.out HL9.out⟩
        · have HA2 := Lib.hid (show ∀ j, j < k + 1 → (t.world j).Ok t.wells from fun j hj => by
            rcases Nat.lt_or_ge j k with h1 | h1
            · exact HALL.out j h1
            · obtain rfl : j = k := by omega
              exact Wd.okB_iff.1 HBK.out)
          go_wp2_with fail
          go_roundw
          case rel =>
            first
            | exact ⟨k + 1, by go_num, by omega, HA2.out, HL9.out⟩
            | ((repeat apply Exists.intro)
               refine ⟨⟨k + 1, ?_, by omega, HA2.out, HL9.out⟩, rfl⟩
               go_num)
          case measure => simp [intOf]; omega
      · skip
        obtain rfl : k = t.nw := by omega
        have HSN := Lib.hid (show ∀ j, j < t.nw → (t.world j).Ok t.wells from HALL.out)
        go_wp2_with fail
        clear bc3 bf3
        go_loopw [4] (fun i wr => ∃ k : Nat, i = .int .i64 k ∧ k ≤ t.nf ∧ (∀ j, j < k → (t.fact j).Ok t.wells) ∧ Below (w.alloc (.cells #[.int .i64 t.wells, .slice Aw t.nw cw, .slice Af t.nf cf] 25)).heap.size (w.alloc (.cells #[.int .i64 t.wells, .slice Aw t.nw cw, .slice Af t.nf cf] 25)) wr) (fun i _ => t.nf - (intOf i).toNat)
        case atStart => exact ⟨0, rfl, Nat.zero_le _, fun j hj => absurd hj (Nat.not_lt_zero _), HL3.out⟩
        case round =>
          obtain ⟨k, rfl, hk, hall, hbel⟩ := hrel
          have HALL2 := Lib.hid hall
          have HL5 := Lib.hid hbel
          obtain ⟨bc5, bf5⟩ := bcell hbel
          have hz5 := hbel.size
          simp only [World.size_alloc] at hz5
          have hy5 : w.heap.size < wr.heap.size := hz5
          clear hbel hall
          by_cases hlt : k < t.nf
          · rcases (HT.out.mono HL5.out).facts with h0 | ⟨b, o, hA, hb, hcell⟩
            · omega
            obtain ⟨c0, c1, c2, c3, c4⟩ := hcell k hlt
            clear hcell
            have k1 : (k : Int) < (t.nf : Int) := by omega
            have HK := Lib.hid hlt
            subst hA
            rcases fact_cases t.wells (t.fact k) with ⟨hok, g1, g2, g3, g4, g5⟩ | ⟨hno, hcase⟩
            · have HOKK := Lib.hid (show ∀ j, j < k + 1 → (t.fact j).Ok t.wells from fun j hj => by
                rcases Nat.lt_or_ge j k with h1 | h1
                · exact HALL2.out j h1
                · obtain rfl : j = k := by omega
                  exact hok)
              clear hok
              have G1 := Lib.hid g1
              have G2 := Lib.hid g2
              have G3 := Lib.hid g3
              have G4 := Lib.hid g4
              have G5 := Lib.hid g5
              clear g1 g2 g3 g4 g5
              go_wp2_with fail
              refine (isWell5_b _ _ _ _ t _ _ _ w0 w1 G1.out).mono ?_
              rintro e w6 ⟨rfl, hb6⟩
              have HL6 := Lib.hid (bTrans (bAlloc HL5.out _) hb6)
              obtain ⟨bc6, bf6⟩ := bcell hb6
              have hz6 := hb6.size
              simp only [World.size_alloc] at hz6
              have hy6 : wr.heap.size < w6.heap.size := by omega
              clear hb6
              go_wp2_with fail
              refine (isWell5_b _ _ _ _ t _ _ _ w0 w1 G2.out).mono ?_
              rintro e w7 ⟨rfl, hb7⟩
              have HL7 := Lib.hid (bTrans HL6.out hb7)
              obtain ⟨bc7, bf7⟩ := bcell hb7
              have hz7 := hb7.size
              have hy7 : wr.heap.size < w7.heap.size := by omega
              clear hb7
              go_wp2_with fail
              refine (within5_b _ _ _ _ _ G3.out).mono ?_
              rintro e w' ⟨rfl, rfl⟩
              go_wp2_with fail
              refine (within5_b _ _ _ _ _ G4.out).mono ?_
              rintro e w' ⟨rfl, rfl⟩
              go_wp2_with fail
              refine (within5_b _ _ _ _ _ G5.out).mono ?_
              rintro e w' ⟨rfl, rfl⟩
              go_wp2_with fail
              go_roundw
              case rel =>
                first
                | exact ⟨k + 1, by go_num, by omega, HOKK.out, HL7.out⟩
                | ((repeat apply Exists.intro)
                   refine ⟨⟨k + 1, ?_, by omega, HOKK.out, HL7.out⟩, rfl⟩
                   go_num)
              case measure => simp [intOf]; omega
            · have HNO := Lib.hid (Qt.err_bad (t := t) fun h => hno (h.fact k HK.out))
              clear hno
              rcases hcase with g1 | ⟨g1, g2⟩ | ⟨g1, g2, g3⟩ | ⟨g1, g2, g3, g4⟩ | ⟨g1, g2, g3, g4, g5⟩
              · have G1 := Lib.hid g1
                clear g1
                go_wp2_with fail
                refine (isWell5_b _ _ _ _ t _ _ _ w0 w1 G1.out).mono ?_
                rintro e w6 ⟨rfl, hb6⟩
                have HL6 := Lib.hid (bTrans (bAlloc HL5.out _) hb6)
                obtain ⟨bc6, bf6⟩ := bcell hb6
                have hz6 := hb6.size
                simp only [World.size_alloc] at hz6
                have hy6 : wr.heap.size < w6.heap.size := by omega
                clear hb6
                go_wp2_with fail
                go_ret
                exact ⟨by rw [HNO.out]; rfl, bTrans HB.out HL6.out⟩
              · have G1 := Lib.hid g1
                have G2 := Lib.hid g2
                clear g1 g2
                go_wp2_with fail
                refine (isWell5_b _ _ _ _ t _ _ _ w0 w1 G1.out).mono ?_
                rintro e w6 ⟨rfl, hb6⟩
                have HL6 := Lib.hid (bTrans (bAlloc HL5.out _) hb6)
                obtain ⟨bc6, bf6⟩ := bcell hb6
                have hz6 := hb6.size
                simp only [World.size_alloc] at hz6
                have hy6 : wr.heap.size < w6.heap.size := by omega
                clear hb6
                go_wp2_with fail
                refine (isWell5_b _ _ _ _ t _ _ _ w0 w1 G2.out).mono ?_
                rintro e w7 ⟨rfl, hb7⟩
                have HL7 := Lib.hid (bTrans HL6.out hb7)
                obtain ⟨bc7, bf7⟩ := bcell hb7
                have hz7 := hb7.size
                have hy7 : wr.heap.size < w7.heap.size := by omega
                clear hb7
                go_wp2_with fail
                go_ret
                exact ⟨by rw [HNO.out]; rfl, bTrans HB.out HL7.out⟩
              · have G1 := Lib.hid g1
                have G2 := Lib.hid g2
                have G3 := Lib.hid g3
                clear g1 g2 g3
                go_wp2_with fail
                refine (isWell5_b _ _ _ _ t _ _ _ w0 w1 G1.out).mono ?_
                rintro e w6 ⟨rfl, hb6⟩
                have HL6 := Lib.hid (bTrans (bAlloc HL5.out _) hb6)
                obtain ⟨bc6, bf6⟩ := bcell hb6
                have hz6 := hb6.size
                simp only [World.size_alloc] at hz6
                have hy6 : wr.heap.size < w6.heap.size := by omega
                clear hb6
                go_wp2_with fail
                refine (isWell5_b _ _ _ _ t _ _ _ w0 w1 G2.out).mono ?_
                rintro e w7 ⟨rfl, hb7⟩
                have HL7 := Lib.hid (bTrans HL6.out hb7)
                obtain ⟨bc7, bf7⟩ := bcell hb7
                have hz7 := hb7.size
                have hy7 : wr.heap.size < w7.heap.size := by omega
                clear hb7
                go_wp2_with fail
                refine (within5_b _ _ _ _ _ G3.out).mono ?_
                rintro e w' ⟨rfl, rfl⟩
                go_wp2_with fail
                go_ret
                exact ⟨by rw [HNO.out]; rfl, bTrans HB.out HL7.out⟩
              · have G1 := Lib.hid g1
                have G2 := Lib.hid g2
                have G3 := Lib.hid g3
                have G4 := Lib.hid g4
                clear g1 g2 g3 g4
                go_wp2_with fail
                refine (isWell5_b _ _ _ _ t _ _ _ w0 w1 G1.out).mono ?_
                rintro e w6 ⟨rfl, hb6⟩
                have HL6 := Lib.hid (bTrans (bAlloc HL5.out _) hb6)
                obtain ⟨bc6, bf6⟩ := bcell hb6
                have hz6 := hb6.size
                simp only [World.size_alloc] at hz6
                have hy6 : wr.heap.size < w6.heap.size := by omega
                clear hb6
                go_wp2_with fail
                refine (isWell5_b _ _ _ _ t _ _ _ w0 w1 G2.out).mono ?_
                rintro e w7 ⟨rfl, hb7⟩
                have HL7 := Lib.hid (bTrans HL6.out hb7)
                obtain ⟨bc7, bf7⟩ := bcell hb7
                have hz7 := hb7.size
                have hy7 : wr.heap.size < w7.heap.size := by omega
                clear hb7
                go_wp2_with fail
                refine (within5_b _ _ _ _ _ G3.out).mono ?_
                rintro e w' ⟨rfl, rfl⟩
                go_wp2_with fail
                refine (within5_b _ _ _ _ _ G4.out).mono ?_
                rintro e w' ⟨rfl, rfl⟩
                go_wp2_with fail
                go_ret
                exact ⟨by rw [HNO.out]; rfl, bTrans HB.out HL7.out⟩
              · have G1 := Lib.hid g1
                have G2 := Lib.hid g2
                have G3 := Lib.hid g3
                have G4 := Lib.hid g4
                have G5 := Lib.hid g5
                clear g1 g2 g3 g4 g5
                go_wp2_with fail
                refine (isWell5_b _ _ _ _ t _ _ _ w0 w1 G1.out).mono ?_
                rintro e w6 ⟨rfl, hb6⟩
                have HL6 := Lib.hid (bTrans (bAlloc HL5.out _) hb6)
                obtain ⟨bc6, bf6⟩ := bcell hb6
                have hz6 := hb6.size
                simp only [World.size_alloc] at hz6
                have hy6 : wr.heap.size < w6.heap.size := by omega
                clear hb6
                go_wp2_with fail
                refine (isWell5_b _ _ _ _ t _ _ _ w0 w1 G2.out).mono ?_
                rintro e w7 ⟨rfl, hb7⟩
                have HL7 := Lib.hid (bTrans HL6.out hb7)
                obtain ⟨bc7, bf7⟩ := bcell hb7
                have hz7 := hb7.size
                have hy7 : wr.heap.size < w7.heap.size := by omega
                clear hb7
                go_wp2_with fail
                refine (within5_b _ _ _ _ _ G3.out).mono ?_
                rintro e w' ⟨rfl, rfl⟩
                go_wp2_with fail
                refine (within5_b _ _ _ _ _ G4.out).mono ?_
                rintro e w' ⟨rfl, rfl⟩
                go_wp2_with fail
                refine (within5_b _ _ _ _ _ G5.out).mono ?_
                rintro e w' ⟨rfl, rfl⟩
                go_wp2_with fail
                go_ret
                exact ⟨by rw [HNO.out]; rfl, bTrans HB.out HL7.out⟩
          · obtain rfl : k = t.nf := by omega
            have HE := Lib.hid (Qt.err_ok (t := t) ⟨w0, w1, nw6, nf6, HSN.out, HALL2.out⟩)
            go_wp2_with fail
            go_ret
            exact ⟨by rw [HE.out]; rfl, bTrans HB.out HL5.out⟩
  · have HNO := Lib.hid (Qt.err_bad (t := t) fun h => hgo ⟨inR_t ⟨h.w0, h.w1⟩, h.nw, h.nf⟩)
    have hcase : (inR t.wells 0 4 = false) ∨ (inR t.wells 0 4 = true ∧ (6 : Int) < (t.nw : Int)) ∨ (inR t.wells 0 4 = true ∧ ¬ (6 : Int) < (t.nw : Int) ∧ (6 : Int) < (t.nf : Int)) := by
      cases e : inR t.wells 0 4
      · exact .inl rfl
      · by_cases h1 : t.nw ≤ 6
        · by_cases h2 : t.nf ≤ 6
          · exact absurd ⟨e, h1, h2⟩ hgo
          · exact .inr (.inr ⟨rfl, by omega, by omega⟩)
        · exact .inr (.inl ⟨rfl, by omega⟩)
    clear hgo
    rcases hcase with g1 | ⟨g1, m1⟩ | ⟨g1, m1, m2⟩
    all_goals
      have G1 := Lib.hid g1
      clear g1
      go_enter Tryz.func74, Tryz.ntmps74
      go_wp2_with fail
      refine (within5_b _ _ _ _ _ G1.out).mono ?_
      rintro e w' ⟨rfl, rfl⟩
      go_wp2_with fail
      go_ret
      exact ⟨by rw [HNO.out]; rfl, HB.out⟩
/-- what ask says -/
noncomputable def Qt.askErr (t : Qt) (is : Bool) : Int := if t.err = 0 then (if is then 0 else 1) else t.err
end Go.Proofs.YtjpfdhhiofjpbaaGreatDoor
/- Rows of numbers of the call's own, gone on with one by one; the walk of LeftOf of the reference of quarrels. Condition: a valid town. -/
namespace Go.Proofs.YtjpfdhhiofjpbaaGreatDoor
open Go.RowKit Go.Sort
def numL (l : List Int) : List Value := l.map (Value.int .i64)
/-- a slice of numbers of the call's own -/
def OwnL (w : World) (base : Nat) (v : Value) (l : List Int) : Prop := w.ownsRow base 3 1 v l.length (numL l)
theorem OwnL.nil (w : World) (base : Nat) : OwnL w base (.slice none 0 0) [] := World.ownsRow_nil _ _ _ _
theorem OwnL.mono {w w' : World} {base : Nat} {v : Value} {l : List Int} (h : OwnL w base v l) (hb : Below w.heap.size w w') : OwnL w' base v l := owns_below h hb
theorem OwnL.lower {w : World} {base base' : Nat} {v : Value} {l : List Int} (h : OwnL w base v l) (hb : base' ≤ base) : OwnL w base' v l := owns_lower h hb
/-- a slice that reads as a list of numbers -/
def NumsAt (w : World) (v : Value) (l : List Int) : Prop := ∃ A c, v = .slice A l.length c ∧ RowAt w A (numL l)
theorem NumsAt.mono {w w' : World} {v : Value} {l : List Int} (h : NumsAt w v l) (hb : Below w.heap.size w w') : NumsAt w' v l := by
  obtain ⟨A, c, e, h⟩ := h
  exact ⟨A, c, e, h.mono hb⟩
theorem OwnL.nums {w : World} {base : Nat} {v : Value} {l : List Int} (h : OwnL w base v l) : NumsAt w v l := by
  rcases Nat.eq_zero_or_pos l.length with h0 | h0
  · obtain rfl := List.eq_nil_of_length_eq_zero h0
    rcases h.2 with ⟨rfl, _⟩ | ⟨g, cap, cur, rfl, _⟩
    · exact ⟨_, _, rfl, .inl rfl⟩
    · exact ⟨_, _, rfl, .inl rfl⟩
  · obtain ⟨A, c, e, hr⟩ := AtHand.row (N := base) (.inr ⟨h0, h⟩)
    exact ⟨A, c, e, hr⟩
/-- 'append(out, x)' -/
theorem wpList_snoc (w : World) {ops : Array Oper} {rest : List Oper} {o : Oper} {a : Act} {Q : Exit → Act → World → Prop} (hg : o.guard = none) (s x : Operand) (hop : o.op = Op.call { callee := Callee.builtin Builtin.append, args := #[s, x], argTypes := #[26, 26] })
    (base : Nat) (v : Value) (l : List Int) (hs : a.eval s = v) (hown : OwnL w base v l) (b : Nat) (y : Int) (hx : a.eval x = .slice (some ⟨b, 0, none⟩) 1 1) (hc : w.cell? ⟨b, 0, none⟩ = some (.int .i64 y)) (hlen : l.length ≤ 1000) (hbase : base ≤ w.heap.size)
    (h : ∀ v' w', OwnL w' base v' (l ++ [y]) → (∀ b0 W, b0 ≤ base → Below b0 W w → Below b0 W w') → wpList Tryz.prog ops Q rest (a.put o.dst v') w') : wpList Tryz.prog ops Q (o :: rest) a w := by
  obtain ⟨i0, hi, iz0, iz1, iz2⟩ := info_parts infoInt
  refine wpList_append_own w hg s x 26 hop base 3 i0 (.int .i64 0) 1 8 Tryz.underlying26 hi iz0 iz1 iz2 rfl (by decide) v l.length (numL l) hs hown ⟨b, 0, none⟩ 1 1 [.int .i64 y] hx rfl (fun j u hj => ?_) (fun u hu => ?_) (by unfold maxLen; omega) (by omega) hbase fun v' w' h1 h2 _ => ?_
  · match j, hj with
    | 0, hj => simp at hj; subst hj; simpa [Addr.add] using hc
  · simp at hu; subst hu; rfl
  · refine h v' w' ?_ fun b0 W hb hB => hB.grown h2 (Nat.le_trans hb hbase) fun k hk => Nat.le_trans hb (hown.lt k hk).1
    show w'.ownsRow base 3 1 v' (l ++ [y]).length (numL (l ++ [y]))
    rw [List.length_append, show numL (l ++ [y]) = numL l ++ [.int .i64 y] from by simp [numL]]
    exact h1
/-- whether a world agrees with the first k facts -/
def Qt.agreesTo (t : Qt) (i k : Nat) : Bool := !anyB (fun j => !(t.world i).agrees (t.fact j)) k
theorem agreesTo_succ (t : Qt) (i k : Nat) : t.agreesTo i (k + 1) = (t.agreesTo i k && (t.world i).agrees (t.fact k)) := by
  unfold Qt.agreesTo
  simp only [anyB]
  cases anyB (fun j => !(t.world i).agrees (t.fact j)) k <;> cases (t.world i).agrees (t.fact k) <;> rfl
/-- what LeftOf hands back -/
def LeftOut (w : World) (base : Nat) (t : Qt) (e : Ending) : Prop := ∃ v, e = .returned v ∧ OwnL w base v t.leftL
set_option maxHeartbeats 4000000 in
set_option maxRecDepth 100000 in
theorem refLeftOf (Aw Af : Option Addr) (cw cf : Nat) (t : Qt) (w : World) (ok : t.Ok) (hT : QAt w Aw Af t) :
    Calls Tryz.prog 75 #[.agg #[.int .i64 t.wells, .slice Aw t.nw cw, .slice Af t.nf cf]] w fun e w' => LeftOut w' w.heap.size t e ∧ Below w.heap.size w w' := by
  have hb0 := bAlloc (Below.refl w.heap.size w) (.cells #[.int .i64 t.wells, .slice Aw t.nw cw, .slice Af t.nf cf] 25)
  have HT := Lib.hid (hT.mono hb0)
  have HB := Lib.hid hb0
  have HOK := Lib.hid ok
  have nw6 := ok.nw
  have nf6 := ok.nf
  clear hT hb0 ok
  go_enter Tryz.func75, Tryz.ntmps75
  go_wp2_with fail
  go_loopw [3, 4] (fun v i wr => ∃ k : Nat, i = .int .i64 k ∧ k ≤ t.nw ∧ OwnL wr (w.alloc (.cells #[.int .i64 t.wells, .slice Aw t.nw cw, .slice Af t.nf cf] 25)).heap.size v (t.leftTo k) ∧ Below (w.alloc (.cells #[.int .i64 t.wells, .slice Aw t.nw cw, .slice Af t.nf cf] 25)).heap.size (w.alloc (.cells #[.int .i64 t.wells, .slice Aw t.nw cw, .slice Af t.nf cf] 25)) wr) (fun _ i _ => t.nw - (intOf i).toNat)
  case atStart => exact ⟨0, rfl, Nat.zero_le _, OwnL.nil _ _, Below.refl _ _⟩
  case round =>
    obtain ⟨k, rfl, hk, hown, hbel⟩ := hrel
    have HO := Lib.hid hown
    have HL3 := Lib.hid hbel
    obtain ⟨bc3, bf3⟩ := bcell hbel
    have hz3 := hbel.size
    simp only [World.size_alloc] at hz3
    have hy3 : w.heap.size < wr.heap.size := hz3
    clear hbel hown
    by_cases hlt : k < t.nw
    · have k1 : (k : Int) < (t.nw : Int) := by omega
      have HK := Lib.hid hlt
      have HLEN := Lib.hid (show (t.leftTo k).length ≤ 1000 from by have := leftTo_len t k; omega)
      go_wp2_with fail
      obtain ⟨wo, hwo⟩ : ∃ wo, wo = wr := ⟨_, rfl⟩
      have HWO := Lib.hid hwo
      clear hwo
      go_loopw [5, 6] (fun s i wr => ∃ j : Nat, s = .bool (t.agreesTo k j) ∧ i = .int .i64 j ∧ j ≤ t.nf ∧ Below wo.heap.size wo wr) (fun _ i _ => t.nf - (intOf i).toNat)
      case atStart => exact ⟨0, rfl, rfl, Nat.zero_le _, by rw [HWO.out]; exact Below.refl _ _⟩
      case round =>
        obtain ⟨j, rfl, rfl, hj, hbel⟩ := hrel
        have HL4 := Lib.hid (bTrans HL3.out (HWO.out ▸ hbel))
        have HL4' := Lib.hid hbel
        obtain ⟨bc4, bf4⟩ := bcell HL4.out
        have hz4 := HL4.out.size
        simp only [World.size_alloc] at hz4
        have hy4 : w.heap.size < wr.heap.size := hz4
        clear hbel
        obtain ⟨bk, hbk⟩ : ∃ bk, t.agreesTo k j = bk := ⟨_, rfl⟩
        rw [hbk]
        have HBK := Lib.hid hbk
        clear hbk
        by_cases hjn : j < t.nf
        · rcases (HT.out.mono HL4.out).facts with h0 | ⟨b, o, hA, hb, hcell⟩
          · omega
          obtain ⟨c0, c1, c2, c3, c4⟩ := hcell j hjn
          have j1 : (j : Int) < (t.nf : Int) := by omega
          have HJ := Lib.hid hjn
          clear hcell
          subst hA
          cases bk
          · have HS := Lib.hid (show t.agreesTo k (j + 1) = false by rw [agreesTo_succ, HBK.out]; rfl)
            go_wp2_with fail
            refine wp_region_quiet_below (by kernel_rfl) (by kernel_rfl) ?_
            repeat (go_big_quiet_step ((fail)))
            refine wpQuiet_nil ?_
            intro w9 hw9
            have HL9 := Lib.hid (bTrans HL4'.out (below_of_regrown hw9))
            clear hw9 c0 c1 c2 c3 c4
            go_wp2_with fail
            go_roundw
            case rel =>
              first
              | exact ⟨j + 1, by rw [HS.out], by go_num, by omega, HL9.out⟩
              | ((repeat apply Exists.intro)
                 refine ⟨⟨j + 1, by rw [HS.out], ?_, by omega, HL9.out⟩, rfl⟩
                 go_num)
            case measure => simp [intOf]; omega
          · obtain ⟨ba, hba⟩ : ∃ ba, (t.world k).agrees (t.fact j) = ba := ⟨_, rfl⟩
            have HS := Lib.hid (show t.agreesTo k (j + 1) = ba by rw [agreesTo_succ, HBK.out, hba]; rfl)
            have HCA := Lib.hid (fun (w' : World) (hb : Below wr.heap.size wr w') => (by
              have := agrees5_any Aw (some ⟨b, o, none⟩) cw cf t k (t.fact j) w' HOK.out HK.out (HOK.out.fact j HJ.out) ((HT.out.mono HL4.out).mono hb)
              rw [hba] at this
              exact this : Calls Tryz.prog 131 #[.agg #[.int .i64 t.wells, .slice Aw t.nw cw, .slice (some ⟨b, o, none⟩) t.nf cf], .int .i64 k, .agg #[.int .i64 (t.fact j).from_, .int .i64 (t.fact j).many, .int .i64 (t.fact j).to_, .int .i64 (t.fact j).low, .int .i64 (t.fact j).high]] w' fun e w'' => e = .returned (.bool ba) ∧ Below w'.heap.size w' w''))
            clear hba
            go_wp2_with fail
            refine wp_region_quiet_below (by kernel_rfl) (by kernel_rfl) ?_
            repeat (go_big_quiet_step ((go_at_call 131; exact Calls.regrown_of (HCA.out _ (below_regrown _ _ _)))))
            refine wpQuiet_nil ?_
            intro w9 hw9
            have HL9 := Lib.hid (bTrans HL4'.out (below_of_regrown hw9))
            clear hw9 c0 c1 c2 c3 c4
            go_wp2_with fail
            go_roundw
            case rel =>
              first
              | exact ⟨j + 1, by rw [HS.out], by go_num, by omega, HL9.out⟩
              | ((repeat apply Exists.intro)
                 refine ⟨⟨j + 1, by rw [HS.out], ?_, by omega, HL9.out⟩, rfl⟩
                 go_num)
            case measure => simp [intOf]; omega
        · obtain rfl : j = t.nf := by omega
          have HO4 := Lib.hid (HO.out.mono (HWO.out ▸ HL4'.out))
          have HBL := Lib.hid (show t.leftB k = bk from HBK.out)
          cases bk
          · have HS := Lib.hid (show t.leftTo (k + 1) = t.leftTo k by
              show (if t.leftB k then t.leftTo k ++ [(k : Int)] else t.leftTo k) = _
              rw [if_neg (by rw [HBL.out]; decide)])
            go_wp2_with fail
            go_roundw
            case rel =>
              first
              | exact ⟨k + 1, by go_num, by omega, by rw [HS.out]; exact HO4.out, HL4.out⟩
              | ((repeat apply Exists.intro)
                 refine ⟨⟨k + 1, ?_, by omega, by rw [HS.out]; exact HO4.out, HL4.out⟩, rfl⟩
                 go_num)
            case measure => simp [intOf]; omega
          · have HS := Lib.hid (show t.leftTo (k + 1) = t.leftTo k ++ [(k : Int)] by
              show (if t.leftB k then _ else _) = _
              rw [if_pos HBL.out])
            go_wp2_with (at_builtin; refine wpList_snoc _ rfl (Operand.tmp 33) (Operand.tmp 35) rfl (w.heap.size + 1) _ (t.leftTo k) rfl ?q1 wr.heap.size k rfl ?q2 HLEN.out ?q3 ?_)
            case q1 =>
              have h := HO4.out
              simp only [World.size_alloc] at h
              exact h.mono (bAlloc (Below.refl _ _) _)
            case q2 => simp [go_sem]
            case q3 => simp; omega
            intro v' w5 hown5 hb5
            have HO5 := Lib.hid hown5
            have HL5 := Lib.hid (hb5 (w.heap.size + 1) _ (Nat.le_refl _) (show Below (w.heap.size + 1) (w.alloc (.cells #[.int .i64 t.wells, .slice Aw t.nw cw, .slice Af t.nf cf] 25)) _ by have := bAlloc HL4.out (.cells #[.int .i64 k] 3); simpa using this))
            clear hown5 hb5
            go_wp2_with fail
            go_roundw
            case rel =>
              have h1 := HO5.out
              have h2 := HL5.out
              first
              | exact ⟨k + 1, by go_num, by omega, by rw [HS.out]; simpa using h1, by simpa using h2⟩
              | ((repeat apply Exists.intro)
                 refine ⟨⟨k + 1, ?_, by omega, by rw [HS.out]; simpa using h1, by simpa using h2⟩, rfl⟩
                 go_num)
            case measure => simp [intOf]; omega
    · obtain rfl : k = t.nw := by omega
      go_wp2_with fail
      go_ret
      exact ⟨⟨_, rfl, HO.out.lower (by simp)⟩, bTrans HB.out HL3.out⟩
end Go.Proofs.YtjpfdhhiofjpbaaGreatDoor
/- Walks of the reference of quarrels: Left, known, Fall, Out. Conditions: lengths are Go's; of Fall: a valid town. -/
namespace Go.Proofs.YtjpfdhhiofjpbaaGreatDoor
open Go.RowKit Go.Sort
theorem askErr_ok {t : Qt} (h : t.Ok) (is : Bool) : t.askErr is = if is then 0 else 1 := by unfold Qt.askErr; rw [Qt.err_ok h]; rfl
theorem askErr_bad {t : Qt} (h : ¬ t.Ok) (is : Bool) : t.askErr is = 50 := by unfold Qt.askErr; rw [Qt.err_bad h]; rfl
theorem askErr_zero {t : Qt} {is : Bool} (h : t.askErr is = 0) : t.Ok ∧ is = true := by
  by_cases ok : t.Ok
  · rw [askErr_ok ok] at h
    cases is
    · cases h
    · exact ⟨ok, rfl⟩
  · rw [askErr_bad ok] at h
    cases h
/-- what known says -/
noncomputable def Qt.knowErr (t : Qt) (is : Bool) : Int := if t.askErr is = 0 then (if t.leftL = [] then 3 else 0) else t.askErr is
theorem knowErr_zero {t : Qt} {is : Bool} (h : t.knowErr is = 0) : t.Ok ∧ is = true ∧ t.leftL ≠ [] := by
  unfold Qt.knowErr at h
  split at h
  · rename_i h1
    obtain ⟨a, b⟩ := askErr_zero h1
    split at h
    · cases h
    · rename_i h2
      exact ⟨a, b, h2⟩
  · rename_i h1
    exact absurd h h1
theorem knowErr_none {t : Qt} (ok : t.Ok) (h : t.leftL = []) : t.knowErr true = 3 := by unfold Qt.knowErr; rw [askErr_ok ok]; simp [h]
theorem knowErr_ok {t : Qt} (ok : t.Ok) (h : t.leftL ≠ []) : t.knowErr true = 0 := by unfold Qt.knowErr; rw [askErr_ok ok]; simp [h]
/-- what known hands back -/
def KnownOut (w : World) (base : Nat) (t : Qt) (is : Bool) (e : Ending) : Prop := ∃ v, e = .returned (.tuple #[v, .int .i64 (t.knowErr is)]) ∧ (t.knowErr is = 0 → OwnL w base v t.leftL) ∧ (t.knowErr is ≠ 0 → v = .slice none 0 0)
end Go.Proofs.YtjpfdhhiofjpbaaGreatDoor
/- Walks of the reference of quarrels: IsWell and IsWorld of any town, Left, Out. Condition: lengths are Go's. -/
namespace Go.Proofs.YtjpfdhhiofjpbaaGreatDoor
open Go.RowKit Go.Sort
/-- whether a number is that of a well, as Go reckons it -/
def Qt.wellB (t : Qt) (n : Int) : Bool := inR n 0 (IntKind.i64.wrap (t.wells - 1))
theorem wellB_ok {t : Qt} (ok : t.Ok) (n : Int) : t.wellB n = inR n 0 (t.wells - 1) := by
  have h0 := ok.w0
  have h1 := ok.w1
  unfold Qt.wellB
  rw [show IntKind.i64.wrap (t.wells - 1) = t.wells - 1 from IntWalk.i64_in _ (by omega)]
/-- what Left hands back -/
def Left5Out (w : World) (base : Nat) (t : Qt) (e : Ending) : Prop := ∃ v, e = .returned (.tuple #[v, .int .i64 t.err]) ∧ (t.Ok → OwnL w base v t.leftL) ∧ (¬ t.Ok → v = .slice none 0 0)
/-- the numbers below n of which something is so -/
def selTo (p : Nat → Bool) : Nat → List Int
  | 0 => []
  | n + 1 => if p n then selTo p n ++ [(n : Int)] else selTo p n
theorem selTo_len (p : Nat → Bool) : ∀ n, (selTo p n).length ≤ n
  | 0 => Nat.le_refl _
  | n + 1 => by
    have := selTo_len p n
    unfold selTo
    split
    · rw [List.length_append]; simp; omega
    · omega
/-- the facts with which a world does not agree -/
def Qt.outL (t : Qt) (i : Nat) : List Int := selTo (fun j => !(t.world i).agrees (t.fact j)) t.nf
/-- what Out says -/
noncomputable def Qt.outErr (t : Qt) (n : Int) : Int :=
  if t.askErr (inR n 0 ((t.nw : Int) - 1)) = 0 then (if t.outL n.toNat = [] then 3 else 0) else t.askErr (inR n 0 ((t.nw : Int) - 1))
/-- what Out hands back -/
def Out5Out (w : World) (base : Nat) (t : Qt) (n : Int) (e : Ending) : Prop := ∃ v, e = .returned (.tuple #[v, .int .i64 (t.outErr n)]) ∧ (t.outErr n = 0 → OwnL w base v (t.outL n.toNat)) ∧ (t.outErr n ≠ 0 → v = .slice none 0 0)
end Go.Proofs.YtjpfdhhiofjpbaaGreatDoor
