/- Walk: ShaftsTimes returns true. Condition: the way that there is not lies in its variable; what a slice that came in is. -/
import Derived.Test.YtbbnpneabmldnaaDoorLawG
import Derived.Test.YtbbnpneabmldnaaDoorLawM
import Derived.Test.YtbbnpneabmldnaaDoorTimesLaw
import Derived.Test.YtbbnpneabmldnaaDoorListLaw
namespace Go.Proofs.YtbbnpneabmldnaaDoor
open Go.RowKit Go.Sort
theorem rocks_put {w : World} {b n : Nat} {f f' : Nat → Rock} (h : RocksAt w (some ⟨b, 0, none⟩) n f) {k j : Nat} (hk : k < n) (hj : j < 4) {v : Int} (hf : ∀ i, i ≠ k → f' i = f i) (h0 : (f' k).hours = if j = 0 then v else (f k).hours) (h1 : (f' k).pence = if j = 1 then v else (f k).pence) (h2 : (f' k).stand = if j = 2 then v else (f k).stand) (h3 : (f' k).seat = if j = 3 then v else (f k).seat) :
    RocksAt (w.setCell ⟨b, k * 4 + j, none⟩ (.int .i64 v)) (some ⟨b, 0, none⟩) n f' := by
  rcases h with h | ⟨b', o', e, hlt, hc⟩
  · omega
  · injection e with e
    injection e with e1 e2
    subst e1 e2
    refine .inr ⟨b, 0, rfl, by simpa [World.setCell] using hlt, fun i hi => ?_⟩
    obtain ⟨c0, c1, c2, c3⟩ := hc i hi
    have other : ∀ l, l ≠ k * 4 + j → (w.setCell ⟨b, k * 4 + j, none⟩ (.int .i64 v)).cell? ⟨b, l, none⟩ = w.cell? ⟨b, l, none⟩ := fun l hl => World.cell?_setCell_other _ _ _ _ (fun e => by injection e with _ e; omega)
    simp only [Nat.zero_add] at c0 c1 c2 c3 ⊢
    by_cases e : i = k
    · subst e
      rw [h0, h1, h2, h3]
      rcases (by omega : j = 0 ∨ j = 1 ∨ j = 2 ∨ j = 3) with rfl | rfl | rfl | rfl
      · exact ⟨World.cell?_setCell_same _ _ _ c0, (other _ (by omega)).trans c1, (other _ (by omega)).trans c2, (other _ (by omega)).trans c3⟩
      · exact ⟨(other _ (by omega)).trans c0, World.cell?_setCell_same _ _ _ c1, (other _ (by omega)).trans c2, (other _ (by omega)).trans c3⟩
      · exact ⟨(other _ (by omega)).trans c0, (other _ (by omega)).trans c1, World.cell?_setCell_same _ _ _ c2, (other _ (by omega)).trans c3⟩
      · exact ⟨(other _ (by omega)).trans c0, (other _ (by omega)).trans c1, (other _ (by omega)).trans c2, World.cell?_setCell_same _ _ _ c3⟩
    · rw [hf i e]
      exact ⟨(other _ (by omega)).trans c0, (other _ (by omega)).trans c1, (other _ (by omega)).trans c2, (other _ (by omega)).trans c3⟩
theorem rocks_keep {w : World} {b n B j : Nat} {f : Nat → Rock} {v : Value} (h : RocksAt w (some ⟨b, 0, none⟩) n f) (hb : b ≠ B) : RocksAt (w.setCell ⟨B, j, none⟩ v) (some ⟨b, 0, none⟩) n f := by
  rcases h with h | ⟨b', o', e, hlt, hc⟩
  · exact .inl h
  · injection e with e
    injection e with e1 e2
    subst e1 e2
    have other : ∀ l, (w.setCell ⟨B, j, none⟩ v).cell? ⟨b, l, none⟩ = w.cell? ⟨b, l, none⟩ := fun l => World.cell?_setCell_other _ _ _ _ (fun e => by injection e with e _; omega)
    exact .inr ⟨b, 0, rfl, by simpa [World.setCell] using hlt, fun i hi => ⟨(other _).trans (hc i hi).1, (other _).trans (hc i hi).2.1, (other _).trans (hc i hi).2.2.1, (other _).trans (hc i hi).2.2.2⟩⟩
/-- but for the rocks and the box nothing has changed; so many rocks have other money -/
structure TimesTo (W0 wr : World) (B b : Nat) (F : Option Addr) (c d : Nat) (S : Sh) (g : Nat → Rock) : Prop where
  rocks : RocksAt wr (some ⟨b, 0, none⟩) S.nr g
  feet : IntsAt wr F S.nf S.foot
  below : Below W0.heap.size W0 wr
  lt : B < wr.heap.size
  ltb : b < wr.heap.size
  frz : ∀ j, wr.frozen? ⟨b, j, none⟩ = false
  frB : ∀ j, wr.frozen? ⟨B, j, none⟩ = false
  c0 : wr.cell? ⟨B, 0, none⟩ = some (.slice (some ⟨b, 0, none⟩) S.nr c)
  c1 : wr.cell? ⟨B, 1, none⟩ = some (.slice F S.nf d)
  c2 : wr.cell? ⟨B, 2, none⟩ = some (.int .i64 S.deep)
  c3 : wr.cell? ⟨B, 3, none⟩ = some (.int .i64 S.haul)
  c4 : wr.cell? ⟨B, 4, none⟩ = some (.int .i64 S.rest)
theorem TimesTo.on {W0 wr w' : World} {B b : Nat} {F : Option Addr} {c d : Nat} {S : Sh} {g : Nat → Rock} (t : TimesTo W0 wr B b F c d S g) (hb : Below wr.heap.size wr w') : TimesTo W0 w' B b F c d S g :=
  ⟨t.rocks.mono hb, t.feet.mono hb, bTrans t.below hb, Nat.lt_of_lt_of_le t.lt hb.size, Nat.lt_of_lt_of_le t.ltb hb.size, fun j => (hb.frozen (p := ⟨b, j, none⟩) t.ltb).trans (t.frz j), fun j => (hb.frozen (p := ⟨B, j, none⟩) t.lt).trans (t.frB j),
    (hb.cell (p := ⟨B, 0, none⟩) t.lt).trans t.c0, (hb.cell (p := ⟨B, 1, none⟩) t.lt).trans t.c1, (hb.cell (p := ⟨B, 2, none⟩) t.lt).trans t.c2, (hb.cell (p := ⟨B, 3, none⟩) t.lt).trans t.c3, (hb.cell (p := ⟨B, 4, none⟩) t.lt).trans t.c4⟩
/-- a cell of the rocks written -/
theorem TimesTo.store {W0 wr : World} {B b : Nat} {F : Option Addr} {c d : Nat} {S : Sh} {g g' : Nat → Rock} {j : Nat} {v : Value} (t : TimesTo W0 wr B b F c d S g) (hW : W0.heap.size ≤ b) (hB : B ≠ b) (hF : 0 < S.nf → ∃ b', F = some ⟨b', 0, none⟩ ∧ b' ≠ b ∧ b' < B) (hr : RocksAt (wr.setCell ⟨b, j, none⟩ v) (some ⟨b, 0, none⟩) S.nr g') : TimesTo W0 (wr.setCell ⟨b, j, none⟩ v) B b F c d S g' := by
  have other : ∀ l, (wr.setCell ⟨b, j, none⟩ v).cell? ⟨B, l, none⟩ = wr.cell? ⟨B, l, none⟩ := fun l => World.cell?_setCell_other _ _ _ _ (fun e => by injection e with e _; omega)
  refine ⟨hr, ?_, bSet hW t.below v, by simpa [World.setCell] using t.lt, by simpa [World.setCell] using t.ltb, fun l => by rw [World.frozen?_setCell]; exact t.frz l, fun l => by rw [World.frozen?_setCell]; exact t.frB l, (other _).trans t.c0, (other _).trans t.c1, (other _).trans t.c2, (other _).trans t.c3, (other _).trans t.c4⟩
  rcases Nat.eq_zero_or_pos S.nf with h0 | h0
  · exact .inl h0
  · obtain ⟨b', e, hne, _⟩ := hF h0
    exact t.feet.other (fun q hq => by rw [e] at hq; injection hq with hq; subst hq; exact hne) v
theorem rocks_congr {w : World} {A : Option Addr} {n : Nat} {f f' : Nat → Rock} (h : RocksAt w A n f) (hf : ∀ i, i < n → f i = f' i) : RocksAt w A n f' := by
  rcases h with h | ⟨b, o, e, hlt, hc⟩
  · exact .inl h
  · exact .inr ⟨b, o, e, hlt, fun i hi => by rw [← hf i hi]; exact hc i hi⟩
theorem times_best {S : Sh} {x : Int} (hx : 1 ≤ x) (ok : S.Ok) (okT : (S.times x).Ok) {m1 m2 : Nat} {n1 n2 : Int} {i1 i2 : Bool} (h1 : (i1 = true ∧ S.Has ∧ S.IsFew m1 ∧ S.IsCheap n1) ∨ (i1 = false ∧ ¬ S.Has ∧ m1 = 0 ∧ n1 = 0))
    (h2 : (i2 = true ∧ (S.times x).Has ∧ (S.times x).IsFew m2 ∧ (S.times x).IsCheap n2) ∨ (i2 = false ∧ ¬ (S.times x).Has ∧ m2 = 0 ∧ n2 = 0)) : i1 = i2 ∧ m2 = m1 ∧ n2 = n1 * x := by
  have hF := times_fewest hx ok okT
  have hC := times_cheap hx ok okT
  rcases out_cases ok with ⟨a0, m, n, a1, a2, a3, a4, _⟩ | ⟨a0, a1, a2⟩ <;> rcases out_cases okT with ⟨b0, m', n', b1, b2, b3, b4, _⟩ | ⟨b0, b1, b2⟩ <;> rw [a1, b1] at hF <;> rw [a2, b2] at hC
  · rcases h1 with ⟨rfl, _, h3, h4⟩ | ⟨_, h, _⟩
    · rcases h2 with ⟨rfl, _, h5, h6⟩ | ⟨_, h, _⟩
      · have e1 : (m' : Int) = m := congrArg Prod.fst hF
        have e2 : n' = n * x := congrArg Prod.fst hC
        rw [h3.uniq a3, h4.uniq a4, h5.uniq b3, h6.uniq b4]
        exact ⟨rfl, by omega, e2⟩
      · exact absurd b0 h
    · exact absurd a0 h
  · have e1 : (3 : Int) = 0 := congrArg Prod.snd hF
    omega
  · have e1 : (0 : Int) = 3 := congrArg Prod.snd hF
    omega
  · rcases h1 with ⟨_, h, _⟩ | ⟨rfl, _, rfl, rfl⟩
    · exact absurd h a0
    · rcases h2 with ⟨_, h, _⟩ | ⟨rfl, _, rfl, rfl⟩
      · exact absurd h b0
      · exact ⟨rfl, rfl, by rw [Int.zero_mul]⟩
theorem next_bd {S : Sh} (ok : S.Ok) {r : Int} (hr : inR r 0 ((S.nr : Int) - 1) = true) : -4968 ≤ (S.nextOut r).1 ∧ (S.nextOut r).1 ≤ 4968 := by
  by_cases h12 : S.nf = 12
  · rw [nextOut_many ok hr h12]
    exact ⟨by decide, by decide⟩
  · obtain ⟨h0, h1⟩ := inR_iff.1 hr
    have hnf := ok.nf
    have b1 := cheapOut_bd ok
    have b2 := cheapOut_bd (ok.more h0 (by omega) (by omega) : (S.more r).Ok)
    rw [nextOut_rest ok hr h12]
    by_cases a1 : S.cheapOut.2 = 0
    · rw [if_neg (not_not_intro a1)]
      by_cases a2 : (S.more r).cheapOut.2 = 0
      · rw [if_neg (not_not_intro a2)]
        exact ⟨by show -4968 ≤ (S.more r).cheapOut.1 - S.cheapOut.1; omega, by show (S.more r).cheapOut.1 - S.cheapOut.1 ≤ 4968; omega⟩
      · rw [if_pos a2]
        exact ⟨show (-4968 : Int) ≤ 0 by decide, show (0 : Int) ≤ 4968 by decide⟩
    · rw [if_pos a1]
      exact ⟨show (-4968 : Int) ≤ 0 by decide, show (0 : Int) ≤ 4968 by decide⟩
theorem within_bd {S : Sh} (ok : S.Ok) (h : Int) : 0 ≤ (S.withinOut h).1 ∧ (S.withinOut h).1 ≤ 4968 := by
  rcases within_cases ok h with ⟨_, v, h1, _, h2, h3⟩ | ⟨_, h1⟩
  · rw [h1]; exact ⟨h2, h3⟩
  · rw [h1]; exact ⟨Int.le_refl _, by decide⟩
/-- the rocks of which k have other money -/
def timedF (S : Sh) (x : Int) (k : Nat) : Nat → Rock := fun i => if i < k then (S.rock i).times x else S.rock i
/-- the rock k with other Pence alone -/
def halfF (S : Sh) (x : Int) (k : Nat) : Nat → Rock := fun i => if i = k then ⟨(S.rock k).hours, (S.rock k).pence * x, (S.rock k).stand, (S.rock k).seat⟩ else timedF S x k i
theorem timedF_at (S : Sh) (x : Int) (k : Nat) : timedF S x k k = S.rock k := if_neg (Nat.lt_irrefl k)
theorem timedF_succ (S : Sh) (x : Int) (k : Nat) : timedF S x (k + 1) k = (S.rock k).times x := if_pos (Nat.lt_succ_self k)
theorem timedF_ne (S : Sh) (x : Int) {k i : Nat} (h : i ≠ k) : timedF S x (k + 1) i = timedF S x k i := by
  unfold timedF
  by_cases h1 : i < k
  · rw [if_pos h1, if_pos (by omega)]
  · rw [if_neg h1, if_neg (by omega)]
theorem halfF_at (S : Sh) (x : Int) (k : Nat) : halfF S x k k = ⟨(S.rock k).hours, (S.rock k).pence * x, (S.rock k).stand, (S.rock k).seat⟩ := if_pos rfl
theorem halfF_ne (S : Sh) (x : Int) {k i : Nat} (h : i ≠ k) : halfF S x k i = timedF S x k i := if_neg h
set_option maxHeartbeats 8000000 in
set_option maxRecDepth 100000 in
theorem ShaftsTimes_any (Ar Af : Option Addr) (cr cf : Nat) (S : Sh) (x h r : Int) (w : World) (hr : S.nr ≤ 9223372036854775807) (hf : S.nf ≤ 9223372036854775807) (hcap : S.nf ≤ cf) (hcf : cf ≤ 9223372036854775807) (hnil : Af = none → S.nf = 0 ∧ cf = 0) (hS : ShAt w Ar Af S) (hN : NoneAt w) (_ : -9223372036854775808 ≤ x ∧ x ≤ 9223372036854775807) (hh : -9223372036854775808 ≤ h ∧ h ≤ 9223372036854775807) (_ : -9223372036854775808 ≤ r ∧ r ≤ 9223372036854775807) :
    Calls Tryd.prog 5 #[.agg #[.slice Ar S.nr cr, .slice Af S.nf cf, .int .i64 S.deep, .int .i64 S.haul, .int .i64 S.rest], .agg #[.int .i64 x, .int .i64 h, .int .i64 r]] w fun e w' => e = .returned (.bool true) ∧ Below w.heap.size w w' := by
  have hb0 := bAlloc (bAlloc (Below.refl w.heap.size w) (.cells #[.slice Ar S.nr cr, .slice Af S.nf cf, .int .i64 S.deep, .int .i64 S.haul, .int .i64 S.rest] 25)) (.cells #[.int .i64 x, .int .i64 h, .int .i64 r] 43)
  have HS := Lib.hid (hS.mono hb0)
  have HN := Lib.hid (hN.mono hb0)
  have HB := Lib.hid hb0
  have HNIL := Lib.hid hnil
  have HCP := Lib.hid (And.intro hcap hcf)
  have HH := Lib.hid hh.2
  clear hS hN hb0 hnil hcap hcf hh
  by_cases hgo : S.Ok ∧ inR x 1 99 = true ∧ inR r 0 ((S.nr : Int) - 1) = true
  · obtain ⟨ok, hix, hir⟩ := hgo
    have hnr := ok.nr
    have hnf := ok.nf
    obtain ⟨x0, x1⟩ := inR_iff.1 hix
    have HIR := Lib.hid hir
    have hnr0 : 0 < S.nr := by have := inR_iff.1 hir; omega
    go_enter Tryd.func5, Tryd.ntmps5
    go_wp2_with fail
    refine (ready_any _ _ _ _ S _ hr hf HS.out).mono ?_
    rintro e w1 ⟨bt, rfl, hbb, hb1⟩
    obtain rfl : bt = true := hbb.2 ok
    have HB1 := Lib.hid hb1
    obtain ⟨bc1, bf1⟩ := bcell hb1
    have hz1 := hb1.size
    simp only [World.size_alloc] at hz1
    have hy1 : w.heap.size < w1.heap.size := by omega
    have hx1 : w.heap.size + 1 < w1.heap.size := by omega
    clear hb1 hbb
    go_wp2_with (go_at_call 32; refine (Within01_any _ _ _ _).mono ?_; rintro e w2' ⟨rfl, rfl⟩)
    refine (isRock_any _ _ _ _ S _ _ hr).mono ?_
    rintro e w2 ⟨he2, hb2⟩
    rw [hir] at he2
    subst he2
    have HB2 := Lib.hid (bTrans HB1.out hb2)
    obtain ⟨bc2, bf2⟩ := bcell HB2.out
    have hz2 := HB2.out.size
    simp only [World.size_alloc] at hz2
    have hy2 : w.heap.size < w2.heap.size := by omega
    have hx2 : w.heap.size + 1 < w2.heap.size := by omega
    clear hb2 bc1 bf1 hz1 hy1 hx1 HB1 hir hix
    go_wp2_with fail
    refine (Copy_own _ _ _ _ S _ (by omega) (by omega) (HS.out.mono HB2.out)).mono ?_
    rintro e w3 ⟨⟨A2, F2, c2, d2, rfl, hS2, hFr, hFf, hP1, hP2⟩, hb3⟩
    obtain ⟨b, e, hbl, hfz⟩ := hFr.2.2.2 hnr0
    subst e
    have hbb : w2.heap.size ≤ b := by
      obtain ⟨p, e, hp⟩ := hFr.2.2.1
      injection e with e
      subst e
      exact hp
    have HB3 := Lib.hid (bTrans HB2.out hb3)
    obtain ⟨bc3, bf3⟩ := bcell HB3.out
    have hz3 := HB3.out.size
    simp only [World.size_alloc] at hz3
    have hy3 : w.heap.size < w3.heap.size := by omega
    have hx3 : w.heap.size + 1 < w3.heap.size := by omega
    have hbW : w.heap.size + 1 < b := by omega
    have HF := Lib.hid (show 0 < S.nf → ∃ b', F2 = some ⟨b', 0, none⟩ ∧ b' ≠ b ∧ b' < w3.heap.size from fun h0 => by
      obtain ⟨b', e, hlt, _⟩ := hFf.2.2.2 h0
      subst e
      exact ⟨b', rfl, fun e => hP1.apart hP2 hnr0 h0 (by decide) e.symm, hlt⟩)
    have HFF := Lib.hid hFf
    have HT0 := Lib.hid (show TimesTo ((w.alloc (.cells #[.slice Ar S.nr cr, .slice Af S.nf cf, .int .i64 S.deep, .int .i64 S.haul, .int .i64 S.rest] 25)).alloc (.cells #[.int .i64 x, .int .i64 h, .int .i64 r] 43)) (w3.alloc (.cells #[.slice (some ⟨b, 0, none⟩) S.nr c2, .slice F2 S.nf d2, .int .i64 S.deep, .int .i64 S.haul, .int .i64 S.rest] 25)) w3.heap.size b F2 c2 d2 S (timedF S x 0) from
      ⟨(hS2.mono (bAlloc (Below.refl _ _) (.cells #[.slice (some ⟨b, 0, none⟩) S.nr c2, .slice F2 S.nf d2, .int .i64 S.deep, .int .i64 S.haul, .int .i64 S.rest] 25))).rocks, (hS2.mono (bAlloc (Below.refl _ _) (.cells #[.slice (some ⟨b, 0, none⟩) S.nr c2, .slice F2 S.nf d2, .int .i64 S.deep, .int .i64 S.haul, .int .i64 S.rest] 25))).feet, bAlloc HB3.out _, by simp, by simp; omega, fun j => (World.frozen?_alloc_past _ _ _ hbl).trans (hfz j), fun j => by simp, by simp, by simp, by simp, by simp, by simp⟩)
    obtain ⟨B, hB⟩ : ∃ B, B = w3.heap.size := ⟨_, rfl⟩
    have hbB : b < B := by omega
    have HBB := Lib.hid hB
    clear hb3 hS2 hFr hFf hP1 hP2 hfz bc2 bf2 hz2 hy2 hx2 HB2
    go_wp2_with fail
    rw [← hB] at HT0 HF ⊢
    have HW3 : B < (w3.alloc (.cells #[.slice (some ⟨b, 0, none⟩) S.nr c2, .slice F2 S.nf d2, .int .i64 S.deep, .int .i64 S.haul, .int .i64 S.rest] 25)).heap.size := HT0.out.lt
    clear bc3 bf3 hz3 hy3 hx3 hB
    go_loopw [6] (fun i wr => ∃ k : Nat, i = .int .i64 k ∧ k ≤ S.nr ∧ TimesTo ((w.alloc (.cells #[.slice Ar S.nr cr, .slice Af S.nf cf, .int .i64 S.deep, .int .i64 S.haul, .int .i64 S.rest] 25)).alloc (.cells #[.int .i64 x, .int .i64 h, .int .i64 r] 43)) wr B b F2 c2 d2 S (timedF S x k)) (fun i _ => S.nr - (intOf i).toNat)
    case atStart => exact ⟨0, rfl, Nat.zero_le _, HT0.out⟩
    case round =>
      obtain ⟨k, rfl, hk, hto⟩ := hrel
      have HT := Lib.hid hto
      have HB4 := Lib.hid hto.below
      obtain ⟨bc4, bf4⟩ := bcell hto.below
      have hz4 := hto.below.size
      simp only [World.size_alloc] at hz4
      have hy4 : w.heap.size < wr.heap.size := by omega
      have hx4 : w.heap.size + 1 < wr.heap.size := by omega
      have hlB := hto.lt
      have hlb := hto.ltb
      have q0 := hto.c0
      have q1 := hto.c1
      have q2 := hto.c2
      have q3 := hto.c3
      have q4 := hto.c4
      clear hto
      by_cases hlt : k < S.nr
      · have okr := ok.rock k hlt
        have p0 := okr.p0
        have p1 := okr.p1
        have t0 := okr.t0
        have t1 := okr.t1
        have m0 : 0 ≤ (S.rock k).pence * x := Int.mul_nonneg p0 (by omega)
        have m1 : (S.rock k).pence * x ≤ 99 * 99 := Int.mul_le_mul p1 x1 (by omega) (by omega)
        have e1 : IntKind.i64.wrap ((S.rock k).pence * x) = (S.rock k).pence * x := IntWalk.i64_in _ (by omega)
        have j1 : (0 : Int) ≤ (k : Int) := by omega
        have j2 : (k : Int) < (S.nr : Int) := by omega
        rcases id HT.out.rocks with h0 | ⟨b', o', e, _, hcell⟩
        · omega
        injection e with e
        injection e with e1' e2'
        subst e1' e2'
        obtain ⟨_, k1, _, k3⟩ := hcell k hlt
        simp only [Nat.zero_add, timedF_at] at k1 k3
        have f1 := HT.out.frz (k * 4 + 1)
        clear hcell
        go_wp2_with fail
        refine wp_region_held 11 [.const (.pointer (some ⟨B, 0, none⟩)), .const (.slice (some ⟨b, 0, none⟩) S.nr c2), .const (.int .i64 k), .const (.pointer (some ⟨b, k * 4, none⟩)), .const (.pointer (some ⟨b, k * 4 + 1, none⟩)), .const (.int .i64 (S.rock k).pence),
          .const (.pointer (some ⟨w.heap.size + 1, 0, none⟩)), .const (.int .i64 x), .const (.int .i64 ((S.rock k).pence * x)), .const (.pointer (some ⟨b, k * 4, none⟩)), .const (.pointer (some ⟨b, k * 4 + 1, none⟩))] (by kernel_rfl) (by kernel_rfl) rfl ⟨trivial, trivial, trivial, trivial, trivial, trivial, trivial, trivial, trivial, trivial, trivial, trivial⟩ ?_
        iterate 11 refine wpHeld_const (by go_simp) ?_
        refine wpHeld_end (fun w5 hb5 hd => ?_)
        clear hd
        simp only [List.drop_succ_cons, List.drop_zero]
        simp only [Act.put, List.setIfInBounds_toArray, List.set_cons_succ, List.set_cons_zero]
        clear e1 j1 j2
        have hT5 := HT.out.on hb5
        have HT5 := Lib.hid hT5
        have HB5 := Lib.hid hT5.below
        have k5 : w5.cell? ⟨b, k * 4 + 1, none⟩ = some (.int .i64 (S.rock k).pence) := (hb5.cell (p := ⟨b, k * 4 + 1, none⟩) hlb).trans k1
        have f5 := hT5.frz (k * 4 + 1)
        have l5 := hT5.ltb
        obtain ⟨bc5, bf5⟩ := bcell hT5.below
        have hz5 := hT5.below.size
        simp only [World.size_alloc] at hz5
        have hy5 : w.heap.size < w5.heap.size := by omega
        have ne1 : w.heap.size ≠ b := by omega
        have ne2 : w.heap.size + 1 ≠ b := by omega
        rcases id HS.out.rocks with h0 | ⟨a, oa, eA, hla, hcA⟩
        · omega
        obtain ⟨_, _, _, cA⟩ := hcA k hlt
        have cS := (hT5.below.cell (p := ⟨a, oa + k * 4 + 3, none⟩) hla).trans cA
        have hla' : a < w.heap.size + 2 := by simpa using hla
        have ne3 : a ≠ b := by omega
        have hW : ((w.alloc (.cells #[.slice Ar S.nr cr, .slice Af S.nf cf, .int .i64 S.deep, .int .i64 S.haul, .int .i64 S.rest] 25)).alloc (.cells #[.int .i64 x, .int .i64 h, .int .i64 r] 43)).heap.size ≤ b := by simp only [World.size_alloc]; omega
        have HW := Lib.hid hW
        by_cases hseat : (S.rock k).seat = -1
        · have HT6 := Lib.hid (TimesTo.store (g' := timedF S x (k + 1)) (j := k * 4 + 1) (v := .int .i64 ((S.rock k).pence * x)) hT5 hW (by omega) HF.out (rocks_put hT5.rocks hlt (by decide) (fun i hi => timedF_ne S x hi) (by rw [timedF_succ, timedF_at]; rfl) (by rw [timedF_succ]; rfl) (by rw [timedF_succ, timedF_at]; rfl) (by
            rw [timedF_succ, timedF_at]
            show (if (S.rock k).seat = -1 then -1 else (S.rock k).seat * x) = (S.rock k).seat
            rw [if_pos hseat, hseat])))
          rw [hseat] at cS
          have HSE := Lib.hid hseat
          subst eA
          clear hseat hcA hla hT5 hW hb5 k1 k3 f1 bc4 bf4 hz4 q0 q1 q2 q3 q4 cA
          go_wp2_with fail
          go_roundw
          case rel => exact ⟨k + 1, by go_num, by omega, HT6.out⟩
          case measure => simp [intOf]; omega
        · have hT6 := TimesTo.store (g' := halfF S x k) (j := k * 4 + 1) (v := .int .i64 ((S.rock k).pence * x)) hT5 hW (by omega) HF.out (rocks_put hT5.rocks hlt (by decide) (fun i hi => halfF_ne S x hi) (by rw [halfF_at, timedF_at]; rfl) (by rw [halfF_at]; rfl) (by rw [halfF_at, timedF_at]; rfl) (by rw [halfF_at, timedF_at]; rfl))
          have HT6 := Lib.hid hT6
          have hs1 : ((S.rock k).seat == -1) = false := beq_eq_false_iff_ne.2 hseat
          have hs2 : ((S.rock k).seat != -1) = true := bne_iff_ne.2 hseat
          have HSE := Lib.hid hseat
          have n0 : 0 ≤ (S.rock k).seat * x := Int.mul_nonneg (by omega) (by omega)
          have n1 : (S.rock k).seat * x ≤ 99 * 99 := Int.mul_le_mul t1 x1 (by omega) (by omega)
          have HN0 := Lib.hid n0
          have HN1 := Lib.hid n1
          subst eA
          clear hseat hcA hla hT5 hT6 hW hb5 k1 k3 f1 bc4 bf4 hz4 q0 q1 q2 q3 q4 cA n0 n1
          go_wp2_with fail
          obtain ⟨w6, hw6⟩ : ∃ w6, w6 = w5.setCell ⟨b, k * 4 + 1, none⟩ (.int .i64 ((S.rock k).pence * x)) := ⟨_, rfl⟩
          rw [← hw6]
          have hT6 : TimesTo _ w6 B b F2 c2 d2 S (halfF S x k) := hw6 ▸ HT6.out
          clear HT6 hw6 bc5 bf5 hz5 hy5 l5 k5 f5 cS
          have HT6 := Lib.hid hT6
          obtain ⟨bc6, bf6⟩ := bcell hT6.below
          have hz6 := hT6.below.size
          simp only [World.size_alloc] at hz6
          have hy6 : w.heap.size < w6.heap.size := by omega
          have hx6 : w.heap.size + 1 < w6.heap.size := by omega
          have l6 := hT6.ltb
          have lB6 := hT6.lt
          have q0 := hT6.c0
          have q1 := hT6.c1
          rcases id hT6.rocks with h0 | ⟨b', o', e, _, hcell⟩
          · omega
          injection e with e
          injection e with e1' e2'
          subst e1' e2'
          obtain ⟨_, _, _, k3⟩ := hcell k hlt
          simp only [Nat.zero_add, halfF_at] at k3
          have f3 := hT6.frz (k * 4 + 3)
          have n0 := HN0.out
          have n1 := HN1.out
          have e1 : IntKind.i64.wrap ((S.rock k).seat * x) = (S.rock k).seat * x := IntWalk.i64_in _ (by omega)
          have j1 : (0 : Int) ≤ (k : Int) := by omega
          have j2 : (k : Int) < (S.nr : Int) := by omega
          clear hcell hT6
          refine wp_region_held 11 [.const (.pointer (some ⟨B, 0, none⟩)), .const (.slice (some ⟨b, 0, none⟩) S.nr c2), .const (.int .i64 k), .const (.pointer (some ⟨b, k * 4, none⟩)), .const (.pointer (some ⟨b, k * 4 + 3, none⟩)), .const (.int .i64 (S.rock k).seat),
            .const (.pointer (some ⟨w.heap.size + 1, 0, none⟩)), .const (.int .i64 x), .const (.int .i64 ((S.rock k).seat * x)), .const (.pointer (some ⟨b, k * 4, none⟩)), .const (.pointer (some ⟨b, k * 4 + 3, none⟩))] (by kernel_rfl) (by kernel_rfl) rfl ⟨trivial, trivial, trivial, trivial, trivial, trivial, trivial, trivial, trivial, trivial, trivial, trivial⟩ ?_
          iterate 11 refine wpHeld_const (by go_simp) ?_
          refine wpHeld_end (fun w7 hb7 hd => ?_)
          clear hd
          simp only [List.drop_succ_cons, List.drop_zero]
          simp only [Act.put, List.setIfInBounds_toArray, List.set_cons_succ, List.set_cons_zero]
          clear e1 j1 j2
          have hT7 := HT6.out.on hb7
          have k7 : w7.cell? ⟨b, k * 4 + 3, none⟩ = some (.int .i64 (S.rock k).seat) := (hb7.cell (p := ⟨b, k * 4 + 3, none⟩) l6).trans k3
          have f7 := hT7.frz (k * 4 + 3)
          have l7 := hT7.ltb
          have HT8 := Lib.hid (TimesTo.store (g' := timedF S x (k + 1)) (j := k * 4 + 3) (v := .int .i64 ((S.rock k).seat * x)) hT7 HW.out (by omega) HF.out (rocks_put hT7.rocks hlt (by decide) (fun i hi => by rw [timedF_ne S x hi, halfF_ne S x hi]) (by rw [timedF_succ, halfF_at]; rfl) (by rw [timedF_succ, halfF_at]; rfl) (by rw [timedF_succ, halfF_at]; rfl) (by
            rw [timedF_succ]
            show (if (S.rock k).seat = -1 then -1 else (S.rock k).seat * x) = (S.rock k).seat * x
            exact if_neg HSE.out)))
          clear hT7 hb7 k3 f3 q0 q1 bc6 bf6 hz6 hy6 hx6 l6 lB6 n0 n1
          go_wp2_with fail
          go_roundw
          case rel => exact ⟨k + 1, by go_num, by omega, HT8.out⟩
          case measure => simp [intOf]; omega
      · obtain rfl : k = S.nr := by omega
        have g0 := ok.d0
        have g1 := ok.d1
        have g2 := ok.l0
        have g3 := ok.l1
        have d0 : 0 ≤ S.deep * x := Int.mul_nonneg g0 (by omega)
        have d1 : S.deep * x ≤ 9 * 99 := Int.mul_le_mul g1 x1 (by omega) (by omega)
        have l0 : 0 ≤ S.haul * x := Int.mul_nonneg g2 (by omega)
        have l1 : S.haul * x ≤ 9 * 99 := Int.mul_le_mul g3 x1 (by omega) (by omega)
        have f2 := HT.out.frB 2
        have f3 := HT.out.frB 3
        have hBne : B ≠ b := by omega
        obtain ⟨w8, hw8⟩ : ∃ w8, w8 = (wr.setCell ⟨B, 2, none⟩ (.int .i64 (S.deep * x))).setCell ⟨B, 3, none⟩ (.int .i64 (S.haul * x)) := ⟨_, rfl⟩
        have hW : ((w.alloc (.cells #[.slice Ar S.nr cr, .slice Af S.nf cf, .int .i64 S.deep, .int .i64 S.haul, .int .i64 S.rest] 25)).alloc (.cells #[.int .i64 x, .int .i64 h, .int .i64 r] 43)).heap.size ≤ B := by simp only [World.size_alloc]; omega
        have HSX := Lib.hid (show ShAt w8 (some ⟨b, 0, none⟩) F2 (S.times x) by
          rw [hw8]
          refine ⟨rocks_keep (rocks_keep (rocks_congr HT.out.rocks fun i hi => if_pos hi) (Ne.symm hBne)) (Ne.symm hBne), ?_⟩
          rcases Nat.eq_zero_or_pos S.nf with h0 | h0
          · exact .inl h0
          · obtain ⟨b', e, _, hlt'⟩ := HF.out h0
            have hne : ∀ q, F2 = some q → q.block ≠ B := fun q hq => by rw [e] at hq; injection hq with hq; subst hq; show b' ≠ B; omega
            exact (HT.out.feet.other (p := ⟨B, 2, none⟩) hne _).other (p := ⟨B, 3, none⟩) hne _)
        have HBX := Lib.hid (show Below _ _ w8 from hw8 ▸ bSet (p := ⟨B, 3, none⟩) hW (bSet (p := ⟨B, 2, none⟩) hW HT.out.below _) _)
        have hltX : B < w8.heap.size := by rw [hw8]; simpa [World.setCell] using hlB
        have o3 : ∀ l v, l ≠ 3 → ∀ u : World, (u.setCell ⟨B, 3, none⟩ v).cell? ⟨B, l, none⟩ = u.cell? ⟨B, l, none⟩ := fun l v hl u => World.cell?_setCell_other _ _ _ _ (fun e => by injection e with _ e; omega)
        have o2 : ∀ l v, l ≠ 2 → ∀ u : World, (u.setCell ⟨B, 2, none⟩ v).cell? ⟨B, l, none⟩ = u.cell? ⟨B, l, none⟩ := fun l v hl u => World.cell?_setCell_other _ _ _ _ (fun e => by injection e with _ e; omega)
        have HC0 := Lib.hid (show w8.cell? ⟨B, 0, none⟩ = some (.slice (some ⟨b, 0, none⟩) S.nr c2) by rw [hw8, o3 _ _ (by decide), o2 _ _ (by decide)]; exact q0)
        have HC1 := Lib.hid (show w8.cell? ⟨B, 1, none⟩ = some (.slice F2 S.nf d2) by rw [hw8, o3 _ _ (by decide), o2 _ _ (by decide)]; exact q1)
        have HC2 := Lib.hid (show w8.cell? ⟨B, 2, none⟩ = some (.int .i64 (S.deep * x)) by rw [hw8, o3 _ _ (by decide)]; exact World.cell?_setCell_same _ _ _ q2)
        have HC3 := Lib.hid (show w8.cell? ⟨B, 3, none⟩ = some (.int .i64 (S.haul * x)) by rw [hw8]; exact World.cell?_setCell_same _ _ _ ((o2 _ _ (by decide) _).trans q3))
        have HC4 := Lib.hid (show w8.cell? ⟨B, 4, none⟩ = some (.int .i64 S.rest) by rw [hw8, o3 _ _ (by decide), o2 _ _ (by decide)]; exact q4)
        have HW8 := Lib.hid hw8
        clear o2 o3 hw8 hW
        go_wp2_with fail
        rw [← HW8.out]
        have HD8 := Lib.hid (Below.refl w8.heap.size w8)
        have HB8 : True := trivial
        have bc8 : True := trivial
        have bf8 : True := trivial
        have hz8 : True := trivial
        have hy8 : True := trivial
        have hx8 : True := trivial
        have q08 : True := trivial
        have q18 : True := trivial
        have q28 : True := trivial
        have q38 : True := trivial
        have q48 : True := trivial
        have hu8 : True := trivial
        clear HT HB4 bc4 bf4 hz4 hy4 hx4 hlB hlb q0 q1 q2 q3 q4 f2 f3 HW8
        refine (ready_any _ _ _ _ (S.times x) _ hr hf HSX.out).mono ?_
        rintro e w9 ⟨bt, rfl, hbb, hb9⟩
        have HD9 := Lib.hid (bTrans HD8.out hb9)
        have HB9 := Lib.hid (bTrans HBX.out HD9.out)
        have hu9 : B < w9.heap.size := Nat.lt_of_lt_of_le hltX HD9.out.size
        have q09 := (HD9.out.cell (p := ⟨B, 0, none⟩) hltX).trans HC0.out
        have q19 := (HD9.out.cell (p := ⟨B, 1, none⟩) hltX).trans HC1.out
        have q29 := (HD9.out.cell (p := ⟨B, 2, none⟩) hltX).trans HC2.out
        have q39 := (HD9.out.cell (p := ⟨B, 3, none⟩) hltX).trans HC3.out
        have q49 := (HD9.out.cell (p := ⟨B, 4, none⟩) hltX).trans HC4.out
        obtain ⟨bc9, bf9⟩ := bcell HB9.out
        have hz9 := HB9.out.size
        simp only [World.size_alloc] at hz9
        have hy9 : w.heap.size < w9.heap.size := by omega
        have hx9 : w.heap.size + 1 < w9.heap.size := by omega
        clear hb9 bc8 bf8 hz8 hy8 hx8 HB8 HD8 q08 q18 q28 q38 q48 hu8
        cases bt
        · clear hbb
          go_wp2_with fail
          refine (works_any _ (HN.out.mono HB9.out)).mono ?_
          rintro e w10 ⟨rfl, hb10⟩
          go_wp2_with fail
          go_ret
          exact ⟨rfl, bTrans HB.out (bTrans HB9.out hb10)⟩
        · have okT : (S.times x).Ok := hbb.1 rfl
          clear hbb
          obtain ⟨a, e, hwi⟩ : ∃ a e, S.withinOut h = (a, e) := ⟨_, _, rfl⟩
          obtain ⟨c, f, hne⟩ : ∃ c f, S.nextOut r = (c, f) := ⟨_, _, rfl⟩
          have hwT := times_within x0 ok okT h
          have hnT := times_next x0 ok okT HIR.out
          obtain ⟨a0, a1⟩ := within_bd ok h
          obtain ⟨b0, b1⟩ := next_bd ok HIR.out
          rw [hwi] at hwT a0 a1
          rw [hne] at hnT b0 b1
          have HWI := Lib.hid hwi
          have HNE := Lib.hid hne
          have HWT := Lib.hid hwT
          have HNT := Lib.hid hnT
          have HOT := Lib.hid okT
          clear hwi hne hwT hnT okT
          go_wp2_with fail
          refine (lawBest_any _ _ _ _ S _ ok (HS.out.mono HB9.out) (HN.out.mono HB9.out)).mono ?_
          rintro e w10 ⟨⟨m1, n1, i1, rfl, hm1, hn1, hn1', hbest1⟩, hb10⟩
          have HBE1 := Lib.hid hbest1
          clear hbest1
          have HD10 := Lib.hid (bTrans HD9.out hb10)
          have HB10 := Lib.hid (bTrans HBX.out HD10.out)
          have hu10 : B < w10.heap.size := Nat.lt_of_lt_of_le hltX HD10.out.size
          have q010 := (HD10.out.cell (p := ⟨B, 0, none⟩) hltX).trans HC0.out
          have q110 := (HD10.out.cell (p := ⟨B, 1, none⟩) hltX).trans HC1.out
          have q210 := (HD10.out.cell (p := ⟨B, 2, none⟩) hltX).trans HC2.out
          have q310 := (HD10.out.cell (p := ⟨B, 3, none⟩) hltX).trans HC3.out
          have q410 := (HD10.out.cell (p := ⟨B, 4, none⟩) hltX).trans HC4.out
          obtain ⟨bc10, bf10⟩ := bcell HB10.out
          have hz10 := HB10.out.size
          simp only [World.size_alloc] at hz10
          have hy10 : w.heap.size < w10.heap.size := by omega
          have hx10 : w.heap.size + 1 < w10.heap.size := by omega
          clear hb10 bc9 bf9 hz9 hy9 hx9 HB9 HD9 q09 q19 q29 q39 q49 hu9
          go_wp2_with fail
          refine (lawBest_any _ _ _ _ (S.times x) _ HOT.out (HSX.out.mono HD10.out) (HN.out.mono HB10.out)).mono ?_
          rintro e w11 ⟨⟨m2, n2, i2, rfl, hm2, hn2, hn2', hbest2⟩, hb11⟩
          obtain ⟨rfl, rfl, rfl⟩ := times_best x0 ok HOT.out HBE1.out hbest2
          clear hbest2 HBE1
          have HD11 := Lib.hid (bTrans HD10.out hb11)
          have HB11 := Lib.hid (bTrans HBX.out HD11.out)
          have hu11 : B < w11.heap.size := Nat.lt_of_lt_of_le hltX HD11.out.size
          have q011 := (HD11.out.cell (p := ⟨B, 0, none⟩) hltX).trans HC0.out
          have q111 := (HD11.out.cell (p := ⟨B, 1, none⟩) hltX).trans HC1.out
          have q211 := (HD11.out.cell (p := ⟨B, 2, none⟩) hltX).trans HC2.out
          have q311 := (HD11.out.cell (p := ⟨B, 3, none⟩) hltX).trans HC3.out
          have q411 := (HD11.out.cell (p := ⟨B, 4, none⟩) hltX).trans HC4.out
          obtain ⟨bc11, bf11⟩ := bcell HB11.out
          have hz11 := HB11.out.size
          simp only [World.size_alloc] at hz11
          have hy11 : w.heap.size < w11.heap.size := by omega
          have hx11 : w.heap.size + 1 < w11.heap.size := by omega
          clear hb11 bc10 bf10 hz10 hy10 hx10 HB10 HD10 q010 q110 q210 q310 q410 hu10
          go_wp2_with fail
          refine (Within_any _ _ _ _ S h _ hr hf HH.out (HS.out.mono HB11.out) (HN.out.mono HB11.out)).mono ?_
          rintro e12 w12 ⟨he12, hb12⟩
          rw [HWI.out] at he12
          subst he12
          have HD12 := Lib.hid (bTrans HD11.out hb12)
          have HB12 := Lib.hid (bTrans HBX.out HD12.out)
          have hu12 : B < w12.heap.size := Nat.lt_of_lt_of_le hltX HD12.out.size
          have q012 := (HD12.out.cell (p := ⟨B, 0, none⟩) hltX).trans HC0.out
          have q112 := (HD12.out.cell (p := ⟨B, 1, none⟩) hltX).trans HC1.out
          have q212 := (HD12.out.cell (p := ⟨B, 2, none⟩) hltX).trans HC2.out
          have q312 := (HD12.out.cell (p := ⟨B, 3, none⟩) hltX).trans HC3.out
          have q412 := (HD12.out.cell (p := ⟨B, 4, none⟩) hltX).trans HC4.out
          obtain ⟨bc12, bf12⟩ := bcell HB12.out
          have hz12 := HB12.out.size
          simp only [World.size_alloc] at hz12
          have hy12 : w.heap.size < w12.heap.size := by omega
          have hx12 : w.heap.size + 1 < w12.heap.size := by omega
          clear hb12 bc11 bf11 hz11 hy11 hx11 HB11 HD11 q011 q111 q211 q311 q411 hu11
          go_wp2_with fail
          refine (Within_any _ _ _ _ (S.times x) h _ hr hf HH.out (HSX.out.mono HD12.out) (HN.out.mono HB12.out)).mono ?_
          rintro e13 w13 ⟨he13, hb13⟩
          rw [HWT.out] at he13
          subst he13
          have HD13 := Lib.hid (bTrans HD12.out hb13)
          have HB13 := Lib.hid (bTrans HBX.out HD13.out)
          have hu13 : B < w13.heap.size := Nat.lt_of_lt_of_le hltX HD13.out.size
          have q013 := (HD13.out.cell (p := ⟨B, 0, none⟩) hltX).trans HC0.out
          have q113 := (HD13.out.cell (p := ⟨B, 1, none⟩) hltX).trans HC1.out
          have q213 := (HD13.out.cell (p := ⟨B, 2, none⟩) hltX).trans HC2.out
          have q313 := (HD13.out.cell (p := ⟨B, 3, none⟩) hltX).trans HC3.out
          have q413 := (HD13.out.cell (p := ⟨B, 4, none⟩) hltX).trans HC4.out
          obtain ⟨bc13, bf13⟩ := bcell HB13.out
          have hz13 := HB13.out.size
          simp only [World.size_alloc] at hz13
          have hy13 : w.heap.size < w13.heap.size := by omega
          have hx13 : w.heap.size + 1 < w13.heap.size := by omega
          clear hb13 bc12 bf12 hz12 hy12 hx12 HB12 HD12 q012 q112 q212 q312 q412 hu12
          go_wp2_with fail
          refine (Next_any _ _ _ _ S r _ hr hf HCP.out.1 HCP.out.2 HNIL.out (HS.out.mono HB13.out) (HN.out.mono HB13.out)).mono ?_
          rintro e14 w14 ⟨he14, hb14⟩
          rw [HNE.out] at he14
          subst he14
          have HD14 := Lib.hid (bTrans HD13.out hb14)
          have HB14 := Lib.hid (bTrans HBX.out HD14.out)
          have hu14 : B < w14.heap.size := Nat.lt_of_lt_of_le hltX HD14.out.size
          have q014 := (HD14.out.cell (p := ⟨B, 0, none⟩) hltX).trans HC0.out
          have q114 := (HD14.out.cell (p := ⟨B, 1, none⟩) hltX).trans HC1.out
          have q214 := (HD14.out.cell (p := ⟨B, 2, none⟩) hltX).trans HC2.out
          have q314 := (HD14.out.cell (p := ⟨B, 3, none⟩) hltX).trans HC3.out
          have q414 := (HD14.out.cell (p := ⟨B, 4, none⟩) hltX).trans HC4.out
          obtain ⟨bc14, bf14⟩ := bcell HB14.out
          have hz14 := HB14.out.size
          simp only [World.size_alloc] at hz14
          have hy14 : w.heap.size < w14.heap.size := by omega
          have hx14 : w.heap.size + 1 < w14.heap.size := by omega
          clear hb14 bc13 bf13 hz13 hy13 hx13 HB13 HD13 q013 q113 q213 q313 q413 hu13
          go_wp2_with fail
          refine (Next_any _ _ _ _ (S.times x) r _ hr hf HFF.out.1 HFF.out.2.1 (fun e => absurd e HFF.out.ne) (HSX.out.mono HD14.out) (HN.out.mono HB14.out)).mono ?_
          rintro e15 w15 ⟨he15, hb15⟩
          rw [HNT.out] at he15
          subst he15
          have HD15 := Lib.hid (bTrans HD14.out hb15)
          have HB15 := Lib.hid (bTrans HBX.out HD15.out)
          have hu15 : B < w15.heap.size := Nat.lt_of_lt_of_le hltX HD15.out.size
          have q015 := (HD15.out.cell (p := ⟨B, 0, none⟩) hltX).trans HC0.out
          have q115 := (HD15.out.cell (p := ⟨B, 1, none⟩) hltX).trans HC1.out
          have q215 := (HD15.out.cell (p := ⟨B, 2, none⟩) hltX).trans HC2.out
          have q315 := (HD15.out.cell (p := ⟨B, 3, none⟩) hltX).trans HC3.out
          have q415 := (HD15.out.cell (p := ⟨B, 4, none⟩) hltX).trans HC4.out
          obtain ⟨bc15, bf15⟩ := bcell HB15.out
          have hz15 := HB15.out.size
          simp only [World.size_alloc] at hz15
          have hy15 : w.heap.size < w15.heap.size := by omega
          have hx15 : w.heap.size + 1 < w15.heap.size := by omega
          clear hb15 bc14 bf14 hz14 hy14 hx14 HB14 HD14 q014 q114 q214 q314 q414 hu14
          have s0 : 0 ≤ n1 * x := Int.mul_nonneg hn1 (by omega)
          have s1 : n1 * x ≤ 4968 * 99 := Int.mul_le_mul hn1' x1 (by omega) (by omega)
          have s2 : 0 ≤ a * x := Int.mul_nonneg a0 (by omega)
          have s3 : a * x ≤ 4968 * 99 := Int.mul_le_mul a1 x1 (by omega) (by omega)
          have s4 : -4968 * x ≤ c * x := Int.mul_le_mul_of_nonneg_right b0 (by omega)
          have s5 : c * x ≤ 4968 * x := Int.mul_le_mul_of_nonneg_right b1 (by omega)
          have e1 : IntKind.i64.wrap (n1 * x) = n1 * x := IntWalk.i64_in _ (by omega)
          have e2 : IntKind.i64.wrap (a * x) = a * x := IntWalk.i64_in _ (by omega)
          have e3 : IntKind.i64.wrap (c * x) = c * x := IntWalk.i64_in _ (by omega)
          clear s4 s5
          go_wp2_with fail
          refine (works_any _ (HN.out.mono HB15.out)).mono ?_
          rintro e16 w16 ⟨rfl, hb16⟩
          go_wp2_with fail
          go_ret
          exact ⟨rfl, bTrans HB.out (bTrans HB15.out hb16)⟩
  · have hcase : ¬ S.Ok ∨ (S.Ok ∧ inR x 1 99 = false) ∨ (S.Ok ∧ inR x 1 99 = true ∧ inR r 0 ((S.nr : Int) - 1) = false) := by
      by_cases ok : S.Ok
      · cases e : inR x 1 99
        · exact .inr (.inl ⟨ok, rfl⟩)
        · cases e2 : inR r 0 ((S.nr : Int) - 1)
          · exact .inr (.inr ⟨ok, rfl, rfl⟩)
          · exact absurd ⟨ok, e, e2⟩ hgo
      · exact .inl ok
    clear hgo
    rcases hcase with hno | ⟨ok, h1⟩ | ⟨ok, h1, h2⟩
    · go_enter Tryd.func5, Tryd.ntmps5
      go_wp2_with fail
      refine (ready_any _ _ _ _ S _ hr hf HS.out).mono ?_
      rintro e w1 ⟨bt, rfl, hbb, hb1⟩
      obtain rfl : bt = false := by
        cases bt
        · rfl
        · exact absurd (hbb.1 rfl) hno
      clear hbb
      go_wp2_with fail
      refine (works_any _ (HN.out.mono hb1)).mono ?_
      rintro e w2 ⟨rfl, hb2⟩
      go_wp2_with fail
      go_ret
      exact ⟨rfl, bTrans HB.out (bTrans hb1 hb2)⟩
    all_goals
      go_enter Tryd.func5, Tryd.ntmps5
      go_wp2_with fail
      refine (ready_any _ _ _ _ S _ hr hf HS.out).mono ?_
      rintro e w1 ⟨bt, rfl, hbb, hb1⟩
      obtain rfl : bt = true := hbb.2 ok
      have HB1 := Lib.hid hb1
      obtain ⟨bc1, bf1⟩ := bcell hb1
      have hz1 := hb1.size
      simp only [World.size_alloc] at hz1
      have hy1 : w.heap.size < w1.heap.size := by omega
      have hx1 : w.heap.size + 1 < w1.heap.size := by omega
      clear hb1 hbb
      go_wp2_with (go_at_call 32; refine (Within01_any _ _ _ _).mono ?_; rintro e w2' ⟨rfl, rfl⟩)
    · refine (works_any _ (HN.out.mono HB1.out)).mono ?_
      rintro e w3 ⟨rfl, hb3⟩
      go_wp2_with fail
      go_ret
      exact ⟨rfl, bTrans HB.out (bTrans HB1.out hb3)⟩
    · refine (isRock_any _ _ _ _ S _ _ hr).mono ?_
      rintro e w2 ⟨he2, hb2⟩
      rw [h2] at he2
      subst he2
      go_wp2_with fail
      refine (works_any _ ((HN.out.mono HB1.out).mono hb2)).mono ?_
      rintro e w3 ⟨rfl, hb3⟩
      go_wp2_with fail
      go_ret
      exact ⟨rfl, bTrans HB.out (bTrans HB1.out (bTrans hb2 hb3))⟩
end Go.Proofs.YtbbnpneabmldnaaDoor
