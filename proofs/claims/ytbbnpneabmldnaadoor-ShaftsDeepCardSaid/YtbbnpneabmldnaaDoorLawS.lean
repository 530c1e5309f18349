/- Walks: Plan, Fewest, Cheap, Within of the reference: each hands back what the program's does. No condition but that lengths are Go's. -/
import Derived.Test.YtbbnpneabmldnaaDoorLawQ
namespace Go.Proofs.YtbbnpneabmldnaaDoor
open Go.RowKit Go.Sort
theorem costOf_at (Ar Af : Option Addr) (cr cf : Nat) (S : Sh) (w : World) (ok : S.Ok) (hS : ShAt w Ar Af S) {m : Nat} {g : Nat → Int} {x : Int} (h : S.costOf m g = x) (A : Option Addr) (c : Nat) (hg : IntsAt w A m g) (hR : Rising 1 S.nf m g) :
    Calls Tryd.prog 30 #[.agg #[.slice Ar S.nr cr, .slice Af S.nf cf, .int .i64 S.deep, .int .i64 S.haul, .int .i64 S.rest], .slice A m c] w fun e w' => e = .returned (.int .i64 x) ∧ Below w.heap.size w w' := by
  have := costOf_any Ar Af cr cf S w ok hS A m c g hg hR
  rw [h] at this
  exact this
theorem hoursOf_at (Ar Af : Option Addr) (cr cf : Nat) (S : Sh) (w : World) (ok : S.Ok) (hS : ShAt w Ar Af S) {m : Nat} {x : Int} (h : S.hoursOf m = x) (A : Option Addr) (c : Nat) (hm : m ≤ 40) :
    Calls Tryd.prog 44 #[.agg #[.slice Ar S.nr cr, .slice Af S.nf cf, .int .i64 S.deep, .int .i64 S.haul, .int .i64 S.rest], .slice A m c] w fun e w' => e = .returned (.int .i64 x) ∧ Below w.heap.size w w' := by
  have := hoursOf_any Ar Af cr cf S w ok hS A m c hm
  rw [h] at this
  exact this
def PlanOut (w' : World) (S : Sh) (e : Ending) : Prop :=
  (¬ S.Ok ∧ e = .returned (.tuple #[.slice none 0 0, .int .i64 20])) ∨ (S.Ok ∧ S.plansL = [] ∧ e = .returned (.tuple #[.slice none 0 0, .int .i64 3])) ∨
    (S.Ok ∧ ∃ b xs, S.plansL = b :: xs ∧ ∃ A m c, e = .returned (.tuple #[.slice A m c, .int .i64 0]) ∧ m = (bestFrom b xs).length ∧ IntsAt w' A m (gOf (bestFrom b xs)))
theorem plans_lens {S : Sh} (ok : S.Ok) : S.plansL.length ≤ 4096 ∧ ∀ l ∈ S.plansL, l.length ≤ 12 := by
  have hnf := ok.nf
  have h2 := behindL_len S.nf S.nf []
  have h3 : 2 ^ S.nf ≤ 2 ^ 12 := Nat.pow_le_pow_right (by omega) hnf
  have h4 : (2 : Nat) ^ 12 = 4096 := by decide
  have h5 : S.plansL.length ≤ (allLists S.nf).length := List.length_filter_le _ _
  simp only [allLists, List.length_cons] at h5
  refine ⟨by omega, fun l hl => ?_⟩
  have := all_lens (List.mem_filter.1 hl).1
  omega
set_option maxHeartbeats 4000000 in
set_option maxRecDepth 100000 in
theorem refPlan_any (Ar Af : Option Addr) (cr cf : Nat) (S : Sh) (w : World) (hr : S.nr ≤ 9223372036854775807) (hf : S.nf ≤ 9223372036854775807) (hS : ShAt w Ar Af S) :
    Calls Tryd.prog 41 #[.agg #[.slice Ar S.nr cr, .slice Af S.nf cf, .int .i64 S.deep, .int .i64 S.haul, .int .i64 S.rest]] w fun e w' => PlanOut w' S e ∧ Below w.heap.size w w' := by
  have hb0 := bAlloc (Below.refl w.heap.size w) (.cells #[.slice Ar S.nr cr, .slice Af S.nf cf, .int .i64 S.deep, .int .i64 S.haul, .int .i64 S.rest] 25)
  have HS := Lib.hid (hS.mono hb0)
  have HB := Lib.hid hb0
  clear hS hb0
  go_enter Tryd.func41, Tryd.ntmps41
  go_wp2_with fail
  refine (plans_any _ _ _ _ S _ hr hf HS.out).mono ?_
  rintro e w2 ⟨hp, hb2⟩
  have HB2 := Lib.hid hb2
  obtain ⟨bc2, bf2⟩ := bcell hb2
  have hz2 := hb2.size
  simp only [World.size_alloc] at hz2
  have hy2 : w.heap.size < w2.heap.size := by omega
  clear hb2
  rcases hp with ⟨ok, rfl⟩ | ⟨ok, hno, rfl⟩ | ⟨ok, hne, g2, c2, vs, rfl, hown, hrows⟩
  · go_wp2_with fail
    go_ret2
    exact ⟨.inl ⟨ok, rfl⟩, bTrans HB.out HB2.out⟩
  · have HNO := Lib.hid hno
    clear hno
    go_wp2_with fail
    go_ret2
    exact ⟨.inr (.inl ⟨ok, HNO.out, rfl⟩), bTrans HB.out HB2.out⟩
  · obtain ⟨b, xs, hbx⟩ : ∃ b xs, S.plansL = b :: xs := by
      cases h : S.plansL with
      | nil => exact absurd h hne
      | cons b xs => exact ⟨b, xs, rfl⟩
    obtain ⟨hle, hlens⟩ := plans_lens ok
    obtain ⟨L, hL⟩ : ∃ L, L = S.plansL := ⟨_, rfl⟩
    rw [← hL] at hown hrows hne hle hlens
    have hL1 : 0 < L.length := by rw [hL, hbx]; simp
    have hL1' : (0 : Int) < (L.length : Int) := by omega
    have HLE := Lib.hid hlens
    have HBX := Lib.hid hbx
    have HLX := Lib.hid (show L = b :: xs from hL.trans hbx)
    rw [← hL]
    have HO := Lib.hid hown
    have HR := Lib.hid hrows
    obtain ⟨A0, m0, d0, hc0, hm0, hint0, _⟩ := Listed.at_ hown hrows (show L[0]? = some b by rw [hL, hbx]; rfl)
    have HI0 := Lib.hid hint0
    have HM0 := Lib.hid hm0
    clear hown hrows hne hlens hbx hL hint0 hm0
    go_wp2_with fail
    clear hc0
    go_loop [6, 7] (fun v i => ∃ (k : Nat) (b' : List Int) (A : Option Addr) (mm c : Nat), v = .slice A mm c ∧ mm = b'.length ∧ i = .int .i64 k ∧ k ≤ L.length ∧ b' ∈ L ∧ bestFrom b' (L.drop k) = bestFrom b xs ∧ IntsAt w2 A mm (gOf b')) (fun _ i => L.length - (intOf i).toNat)
    case atStart =>
      refine ⟨0, b, _, _, _, rfl, HM0.out, rfl, Nat.zero_le _, by rw [HLX.out]; exact List.mem_cons_self .., ?_, HI0.out⟩
      rw [HLX.out]
      simp only [List.drop_zero, bestFrom]
      rw [if_neg (Nat.lt_irrefl _)]
    case round =>
      obtain ⟨k, b', A, mm, c, rfl, hmm, rfl, hk, hmem, hbest, hint⟩ := hrel
      have HMM := Lib.hid hmm
      have HME := Lib.hid hmem
      have HBE := Lib.hid hbest
      have HI := Lib.hid hint
      have hmb : mm ≤ 12 := by rw [hmm]; exact HLE.out _ hmem
      clear hmm hmem hbest hint
      by_cases hlt : k < L.length
      · obtain ⟨l, hl⟩ : ∃ l, L[k]? = some l := ⟨_, List.getElem?_eq_getElem hlt⟩
        obtain ⟨Ak, mk, dk, hc, hmk, hintk, _⟩ := Listed.at_ HO.out HR.out hl
        have hlt2 : (k : Int) < (L.length : Int) := by omega
        have hml : mk ≤ 12 := by rw [hmk]; exact HLE.out _ (List.mem_of_getElem? hl)
        have hdr : L.drop k = l :: L.drop (k + 1) := by
          rw [List.drop_eq_getElem_cons hlt]
          congr 1
          rw [List.getElem?_eq_getElem hlt] at hl
          exact Option.some.inj hl
        have HIK := Lib.hid hintk
        have hbe := HBE.out
        rw [hdr] at hbe
        simp only [bestFrom] at hbe
        rw [← hmk, ← HMM.out] at hbe
        have HMK := Lib.hid hmk
        have HML := Lib.hid (List.mem_of_getElem? hl)
        by_cases hsm : mk < mm
        · rw [if_pos hsm] at hbe
          have HBN := Lib.hid hbe
          have hsm2 : (mk : Int) < (mm : Int) := by omega
          clear hbe hdr hl hmk hintk
          go_wp2_with fail
          go_round
          case rel => exact ⟨k + 1, l, Ak, mk, dk, rfl, HMK.out, by go_num, by omega, HML.out, HBN.out, HIK.out⟩
          case measure => simp [intOf]; omega
        · rw [if_neg hsm] at hbe
          have HBN := Lib.hid hbe
          have hsm2 : ¬ (mk : Int) < (mm : Int) := by omega
          clear hbe hdr hl hmk hintk
          go_wp2_with fail
          go_round
          case rel => exact ⟨k + 1, b', A, mm, c, rfl, HMM.out, by go_num, by omega, HME.out, HBN.out, HI.out⟩
          case measure => simp [intOf]; omega
      · obtain rfl : k = L.length := by omega
        have hbe := HBE.out
        rw [List.drop_length] at hbe
        simp only [bestFrom] at hbe
        have HBN := Lib.hid hbe
        clear hbe
        go_wp2_with fail
        go_ret2
        exact ⟨.inr (.inr ⟨ok, b, xs, HBX.out, A, mm, c, rfl, by rw [← HBN.out]; exact HMM.out, by rw [← HBN.out]; exact HI.out⟩), bTrans HB.out HB2.out⟩
theorem best_few {S : Sh} {b : List Int} {xs : List (List Int)} (hL : S.plansL = b :: xs) : S.IsFew (bestFrom b xs).length := by
  have hord : (b :: xs).Pairwise LexLt := by rw [← hL]; exact (all_order S.nf).filter _
  obtain ⟨g1, g2⟩ := bestFrom_spec xs b hord
  rw [← hL] at g1
  obtain ⟨t, t1, t2, _⟩ := plan_chainL (listed_plan g1)
  refine ⟨⟨t, t1, by rw [t2, intsOf_len]⟩, fun l hl => ?_⟩
  have := (g2 (intsOf l) (by rw [← hL]; exact chain_listed hl)).1
  rwa [intsOf_len] at this
theorem fewest_none {S : Sh} (ok : S.Ok) (h : S.plansL = []) : S.fewestOut = (0, 3) ∧ S.cheapOut = (0, 3) := by
  rcases out_cases ok with ⟨hh, _⟩ | ⟨_, h1, h2⟩
  · exact absurd h (plans_has.2 hh)
  · exact ⟨h1, h2⟩
theorem fewest_some {S : Sh} (ok : S.Ok) {b : List Int} {xs : List (List Int)} (hL : S.plansL = b :: xs) : S.fewestOut = ((((bestFrom b xs).length : Nat) : Int), 0) := by
  rcases out_cases ok with ⟨_, m, n, h1, _, h2, _⟩ | ⟨h, _⟩
  · rw [h1, h2.uniq (best_few hL)]
  · exact absurd (plans_has.1 (by rw [hL]; simp)) h
theorem cheap_some {S : Sh} (ok : S.Ok) {b : List Int} {xs : List (List Int)} (hL : S.plansL = b :: xs) {n : Int} (h1 : ∃ l ∈ S.plansL, S.costOf l.length (gOf l) = n) (h2 : ∀ l ∈ S.plansL, n ≤ S.costOf l.length (gOf l)) : S.cheapOut = (n, 0) := by
  have hc := min_cost hL h1 h2
  rcases out_cases ok with ⟨_, m, n', _, h3, _, h4, _⟩ | ⟨h, _⟩
  · rw [h3, h4.uniq hc]
  · exact absurd (plans_has.1 (by rw [hL]; simp)) h
theorem hours_iff {S : Sh} (ok : S.Ok) {m : Nat} (hm : m ≤ 12) (h : Int) : S.hoursOf m ≤ h ↔ S.dig ≤ h ∧ m ≤ S.ringsIn h := by
  have hmr : 0 ≤ (m : Int) * S.rest := Int.mul_nonneg (by omega) ok.r0
  have hh : S.hoursOf m = S.dig + (m : Int) * S.rest := by unfold Sh.hoursOf Sh.dig; rw [Int.mul_comm]; omega
  constructor
  · intro h1
    exact ⟨by omega, (le_ringsIn ok (by omega) hm).2 (by omega)⟩
  · rintro ⟨h1, h2⟩
    have := (le_ringsIn ok h1 hm).1 h2
    omega
theorem within_no {S : Sh} (ok : S.Ok) {h : Int} (hno : ∀ l ∈ S.plansL, ¬ S.hoursOf l.length ≤ h) : S.withinOut h = (0, 3) := by
  rcases within_cases ok h with ⟨⟨h1, t, h2, h3⟩, _⟩ | ⟨_, h1⟩
  · have h4 := hno _ (chain_listed h2)
    rw [intsOf_len] at h4
    have := ok.nf
    exact absurd ((hours_iff ok (by have := h2.len; omega) h).2 ⟨h1, h3⟩) h4
  · exact h1
theorem within_yes {S : Sh} (ok : S.Ok) {h n : Int} (h1 : ∃ l ∈ S.plansL, S.hoursOf l.length ≤ h ∧ S.costOf l.length (gOf l) = n) (h2 : ∀ l ∈ S.plansL, S.hoursOf l.length ≤ h → n ≤ S.costOf l.length (gOf l)) : S.withinOut h = (n, 0) := by
  obtain ⟨l, hl, hh, hc⟩ := h1
  have hnf := ok.nf
  obtain ⟨t, t1, t2, t3⟩ := plan_chainL (listed_plan hl)
  have hlen : l.length ≤ 12 := (plans_lens ok).2 l hl
  have htl : t.length = l.length := by rw [t2, intsOf_len]
  obtain ⟨b1, b2⟩ := (hours_iff ok hlen h).1 hh
  rcases within_cases ok h with ⟨_, v, h3, h4, _⟩ | ⟨h3, _⟩
  · rw [h3]
    congr 1
    have e1 := h4.least t t1 (by omega)
    rw [t3, ← costOf_pay, hc] at e1
    obtain ⟨t', q1, q2, q3⟩ := h4.is
    have e2 := h2 _ (chain_listed q1) (by rw [intsOf_len]; exact (hours_iff ok (by have := q1.len; omega) h).2 ⟨b1, q2⟩)
    rw [costOf_pay, ints_stops, q3] at e2
    omega
  · exact absurd ⟨b1, t, t1, by omega⟩ h3
set_option maxHeartbeats 4000000 in
set_option maxRecDepth 100000 in
theorem refFewest_any (Ar Af : Option Addr) (cr cf : Nat) (S : Sh) (w : World) (hr : S.nr ≤ 9223372036854775807) (hf : S.nf ≤ 9223372036854775807) (hS : ShAt w Ar Af S) :
    Calls Tryd.prog 40 #[.agg #[.slice Ar S.nr cr, .slice Af S.nf cf, .int .i64 S.deep, .int .i64 S.haul, .int .i64 S.rest]] w fun e w' => e = .returned (.tuple #[.int .i64 S.fewestOut.1, .int .i64 S.fewestOut.2]) ∧ Below w.heap.size w w' := by
  have hb0 := bAlloc (Below.refl w.heap.size w) (.cells #[.slice Ar S.nr cr, .slice Af S.nf cf, .int .i64 S.deep, .int .i64 S.haul, .int .i64 S.rest] 25)
  have HS := Lib.hid (hS.mono hb0)
  have HB := Lib.hid hb0
  clear hS hb0
  go_enter Tryd.func40, Tryd.ntmps40
  go_wp2_with fail
  refine (refPlan_any _ _ _ _ S _ hr hf HS.out).mono ?_
  rintro e w2 ⟨hp, hb2⟩
  rcases hp with ⟨ok, rfl⟩ | ⟨ok, hno, rfl⟩ | ⟨ok, b, xs, hbx, A, m, c, rfl, hm, _⟩
  · have HE := Lib.hid (fewestOut_bad ok)
    go_wp2_with fail
    go_ret2
    exact ⟨by rw [HE.out]; rfl, bTrans HB.out hb2⟩
  · have HE := Lib.hid (fewest_none ok hno).1
    clear hno
    go_wp2_with fail
    go_ret2
    exact ⟨by rw [HE.out]; rfl, bTrans HB.out hb2⟩
  · have HE := Lib.hid (fewest_some ok hbx)
    rw [← hm] at HE
    clear hbx hm
    go_wp2_with fail
    go_ret2
    exact ⟨by rw [HE.out]; rfl, bTrans HB.out hb2⟩
set_option maxHeartbeats 4000000 in
set_option maxRecDepth 100000 in
theorem refCheap_any (Ar Af : Option Addr) (cr cf : Nat) (S : Sh) (w : World) (hr : S.nr ≤ 9223372036854775807) (hf : S.nf ≤ 9223372036854775807) (hS : ShAt w Ar Af S) :
    Calls Tryd.prog 25 #[.agg #[.slice Ar S.nr cr, .slice Af S.nf cf, .int .i64 S.deep, .int .i64 S.haul, .int .i64 S.rest]] w fun e w' => e = .returned (.tuple #[.int .i64 S.cheapOut.1, .int .i64 S.cheapOut.2]) ∧ Below w.heap.size w w' := by
  have hb0 := bAlloc (Below.refl w.heap.size w) (.cells #[.slice Ar S.nr cr, .slice Af S.nf cf, .int .i64 S.deep, .int .i64 S.haul, .int .i64 S.rest] 25)
  have HS := Lib.hid (hS.mono hb0)
  have HB := Lib.hid hb0
  clear hS hb0
  go_enter Tryd.func25, Tryd.ntmps25
  go_wp2_with fail
  refine (plans_any _ _ _ _ S _ hr hf HS.out).mono ?_
  rintro e w2 ⟨hp, hb2⟩
  have HB2 := Lib.hid hb2
  obtain ⟨bc2, bf2⟩ := bcell hb2
  have hz2 := hb2.size
  simp only [World.size_alloc] at hz2
  have hy2 : w.heap.size < w2.heap.size := by omega
  clear hb2
  rcases hp with ⟨ok, rfl⟩ | ⟨ok, hno, rfl⟩ | ⟨ok, hne, g2, c2, vs, rfl, hown, hrows⟩
  · have HE := Lib.hid (cheapOut_bad ok)
    go_wp2_with fail
    go_ret2
    exact ⟨by rw [HE.out]; rfl, bTrans HB.out HB2.out⟩
  · have HE := Lib.hid (fewest_none ok hno).2
    clear hno
    go_wp2_with fail
    go_ret2
    exact ⟨by rw [HE.out]; rfl, bTrans HB.out HB2.out⟩
  · obtain ⟨b, xs, hbx⟩ : ∃ b xs, S.plansL = b :: xs := by
      cases h : S.plansL with
      | nil => exact absurd h hne
      | cons b xs => exact ⟨b, xs, rfl⟩
    obtain ⟨hle, hlens⟩ := plans_lens ok
    obtain ⟨L, hL⟩ : ∃ L, L = S.plansL := ⟨_, rfl⟩
    rw [← hL] at hown hrows hne hle hlens
    have hL1 : 0 < L.length := by rw [hL, hbx]; simp
    have hL1' : (0 : Int) < (L.length : Int) := by omega
    have HBX := Lib.hid hbx
    have HLX := Lib.hid hL
    rw [← hL]
    have HO := Lib.hid hown
    have HR := Lib.hid hrows
    have hg2 : g2 < w2.heap.size := (hown.lt g2 rfl).2
    have HPL := Lib.hid (fun (l : List Int) (h : l ∈ L) => listed_plan (hL ▸ h : l ∈ S.plansL))
    have hb0L : b ∈ L := by rw [hL, hbx]; exact List.mem_cons_self ..
    have HBL := Lib.hid hb0L
    obtain ⟨A0, m0, d0, hc0, hm0, hint0, _⟩ := Listed.at_ hown hrows (show L[0]? = some b by rw [hL, hbx]; rfl)
    obtain ⟨x0, hx0⟩ : ∃ x0, S.costOf m0 (gOf b) = x0 := ⟨_, rfl⟩
    have HI0 := Lib.hid hint0
    have HX0 := Lib.hid hx0
    have HR0 := Lib.hid (show Rising 1 S.nf m0 (gOf b) by rw [hm0]; exact (HPL.out b hb0L).rising)
    have HXX := Lib.hid (show S.costOf b.length (gOf b) = x0 by rw [← hm0]; exact hx0)
    clear hown hrows hne hlens hbx hL hint0 hm0 hx0 hb0L
    go_wp2_with fail
    refine wp_region_quiet_below (by kernel_rfl) (by kernel_rfl) ?_
    repeat (go_big_quiet_step ((go_at_call 30; exact Calls.regrown_of (costOf_at _ _ _ _ S _ ok ((HS.out.mono HB2.out).mono (below_regrown _ _ _)) HX0.out _ _ (HI0.out.mono (below_regrown _ _ _)) HR0.out))))
    refine wpQuiet_nil ?_
    intro w3 hw3
    have hb3 := below_of_regrown hw3
    have HB3 := Lib.hid (bTrans HB2.out hb3)
    have HO3 := Lib.hid (owns_below HO.out hb3)
    have HR3 := Lib.hid (HR.out.mono hb3)
    have hz3 := hb3.size
    have hg3 : g2 < w3.heap.size := by omega
    have hy3 : w.heap.size < w3.heap.size := by omega
    clear hw3 hb3 bc2 bf2 hz2 hy2 hc0 hg2 HO HR
    go_wp2_with fail
    go_loopw [6, 7] (fun v i wr => ∃ (k : Nat) (n : Int), v = .int .i64 n ∧ i = .int .i64 k ∧ k ≤ L.length ∧ (∃ l ∈ L, S.costOf l.length (gOf l) = n) ∧ (∀ j l, j < k → L[j]? = some l → n ≤ S.costOf l.length (gOf l)) ∧ Below w3.heap.size w3 wr) (fun _ i _ => L.length - (intOf i).toNat)
    case atStart => exact ⟨0, x0, rfl, rfl, Nat.zero_le _, ⟨b, HBL.out, HXX.out⟩, fun j l h => absurd h (Nat.not_lt_zero _), Below.refl _ _⟩
    case round =>
      obtain ⟨k, n, rfl, rfl, hk, hex, hmin, hbel⟩ := hrel
      have HEX := Lib.hid hex
      have HMIN := Lib.hid hmin
      have HD4 := Lib.hid hbel
      have HB4 := Lib.hid (bTrans HB3.out hbel)
      obtain ⟨bc4, bf4⟩ := bcell HB4.out
      have hz4 := HB4.out.size
      simp only [World.size_alloc] at hz4
      have hy4 : w.heap.size < wr.heap.size := hz4
      have hg4 : g2 < wr.heap.size := Nat.lt_of_lt_of_le hg3 hbel.size
      clear hex hmin hbel
      by_cases hlt : k < L.length
      · obtain ⟨l, hl⟩ : ∃ l, L[k]? = some l := ⟨_, List.getElem?_eq_getElem hlt⟩
        obtain ⟨Ak, mk, dk, hc, hmk, hint, _⟩ := Listed.at_ (owns_below HO3.out HD4.out) (HR3.out.mono HD4.out) hl
        have hlt2 : (k : Int) < (L.length : Int) := by omega
        obtain ⟨x, hx⟩ : ∃ x, S.costOf mk (gOf l) = x := ⟨_, rfl⟩
        have HX := Lib.hid hx
        have HI := Lib.hid hint
        have HL := Lib.hid hl
        have HML := Lib.hid (List.mem_of_getElem? hl)
        have HRK := Lib.hid (show Rising 1 S.nf mk (gOf l) by rw [hmk]; exact (HPL.out l HML.out).rising)
        have hxl : S.costOf l.length (gOf l) = x := by rw [← hmk]; exact hx
        have hmn : ∃ y, (if x < n then x else n) = y ∧ (∃ l ∈ L, S.costOf l.length (gOf l) = y) ∧ ∀ j l, j < k + 1 → L[j]? = some l → y ≤ S.costOf l.length (gOf l) := by
          by_cases hxn : x < n
          · refine ⟨x, if_pos hxn, ⟨l, HML.out, hxl⟩, fun j l' hj hl' => ?_⟩
            rcases Nat.lt_or_ge j k with h1 | h1
            · have := HMIN.out j l' h1 hl'; omega
            · obtain rfl : j = k := by omega
              rw [hl] at hl'
              injection hl' with hl'
              subst hl'
              omega
          · refine ⟨n, if_neg hxn, HEX.out, fun j l' hj hl' => ?_⟩
            rcases Nat.lt_or_ge j k with h1 | h1
            · exact HMIN.out j l' h1 hl'
            · obtain rfl : j = k := by omega
              rw [hl] at hl'
              injection hl' with hl'
              subst hl'
              omega
        obtain ⟨y, hy, hy1, hy2⟩ := hmn
        have HY1 := Lib.hid hy1
        have HY2 := Lib.hid hy2
        clear hx hint hl hmk hxl hy1 hy2
        go_wp2_with fail
        refine wp_region_quiet_below (by kernel_rfl) (by kernel_rfl) ?_
        repeat (go_big_quiet_step ((go_at_call 30; exact Calls.regrown_of (costOf_at _ _ _ _ S _ ok ((HS.out.mono HB4.out).mono (below_regrown _ _ _)) HX.out _ _ (HI.out.mono (below_regrown _ _ _)) HRK.out))))
        refine wpQuiet_nil ?_
        intro w5 hw5
        have HD5 := Lib.hid (bTrans HD4.out (below_of_regrown hw5))
        clear hw5
        go_wp2_with fail
        go_roundw
        case rel => exact ⟨k + 1, y, by first | rfl | (rw [hy]), by go_num, by omega, HY1.out, HY2.out, HD5.out⟩
        case measure => simp [intOf]; omega
      · obtain rfl : k = L.length := by omega
        have HE := Lib.hid (cheap_some ok HBX.out (n := n) (by rw [← HLX.out]; exact HEX.out) (fun l hl => by
          rw [← HLX.out] at hl
          obtain ⟨j, hj, e⟩ := List.getElem_of_mem hl
          exact HMIN.out j l hj (by rw [List.getElem?_eq_getElem hj, e])))
        go_wp2_with fail
        go_ret2
        exact ⟨by rw [HE.out]; rfl, bTrans HB.out HB4.out⟩
/-- what the loop of Within holds behind k plans -/
structure WithinTo (S : Sh) (L : List (List Int)) (h : Int) (k : Nat) (n : Int) (fd : Bool) : Prop where
  no : fd = false → n = 0 ∧ ∀ (j : Nat) l, j < k → L[j]? = some l → ¬ S.hoursOf l.length ≤ h
  yes : fd = true → (∃ l ∈ L, S.hoursOf l.length ≤ h ∧ S.costOf l.length (gOf l) = n) ∧ ∀ (j : Nat) l, j < k → L[j]? = some l → S.hoursOf l.length ≤ h → n ≤ S.costOf l.length (gOf l)
theorem WithinTo.skip {S : Sh} {L : List (List Int)} {h : Int} {k : Nat} {n : Int} {fd : Bool} {l : List Int} (t : WithinTo S L h k n fd) (hl : L[k]? = some l) (hn : fd = false → ¬ S.hoursOf l.length ≤ h) (hy : fd = true → S.hoursOf l.length ≤ h → n ≤ S.costOf l.length (gOf l)) : WithinTo S L h (k + 1) n fd := by
  refine ⟨fun e => ⟨(t.no e).1, fun j l' hj hl' => ?_⟩, fun e => ⟨(t.yes e).1, fun j l' hj hl' => ?_⟩⟩
  · rcases Nat.lt_or_ge j k with h1 | h1
    · exact (t.no e).2 j l' h1 hl'
    · obtain rfl : j = k := by omega
      rw [hl] at hl'
      injection hl' with hl'
      subst hl'
      exact hn e
  · rcases Nat.lt_or_ge j k with h1 | h1
    · exact (t.yes e).2 j l' h1 hl'
    · obtain rfl : j = k := by omega
      rw [hl] at hl'
      injection hl' with hl'
      subst hl'
      exact hy e
theorem WithinTo.take {S : Sh} {L : List (List Int)} {h : Int} {k : Nat} {n : Int} {fd : Bool} {l : List Int} (t : WithinTo S L h k n fd) (hl : L[k]? = some l) (hh : S.hoursOf l.length ≤ h) (hy : fd = true → S.costOf l.length (gOf l) ≤ n) : WithinTo S L h (k + 1) (S.costOf l.length (gOf l)) true := by
  refine ⟨(fun e => by cases e), fun _ => ⟨⟨l, List.mem_of_getElem? hl, hh, rfl⟩, fun j l' hj hl' hh' => ?_⟩⟩
  rcases Nat.lt_or_ge j k with h1 | h1
  · cases fd with
    | false => exact absurd hh' ((t.no rfl).2 j l' h1 hl')
    | true => have := (t.yes rfl).2 j l' h1 hl' hh'; have := hy rfl; omega
  · obtain rfl : j = k := by omega
    rw [hl] at hl'
    injection hl' with hl'
    subst hl'
    exact Int.le_refl _
set_option maxHeartbeats 8000000 in
set_option maxRecDepth 100000 in
theorem refWithin_any (Ar Af : Option Addr) (cr cf : Nat) (S : Sh) (h : Int) (w : World) (hr : S.nr ≤ 9223372036854775807) (hf : S.nf ≤ 9223372036854775807) (hS : ShAt w Ar Af S) :
    Calls Tryd.prog 27 #[.agg #[.slice Ar S.nr cr, .slice Af S.nf cf, .int .i64 S.deep, .int .i64 S.haul, .int .i64 S.rest], .int .i64 h] w fun e w' => e = .returned (.tuple #[.int .i64 (S.withinOut h).1, .int .i64 (S.withinOut h).2]) ∧ Below w.heap.size w w' := by
  have hb0 := bAlloc (Below.refl w.heap.size w) (.cells #[.slice Ar S.nr cr, .slice Af S.nf cf, .int .i64 S.deep, .int .i64 S.haul, .int .i64 S.rest] 25)
  have HS := Lib.hid (hS.mono hb0)
  have HB := Lib.hid hb0
  clear hS hb0
  go_enter Tryd.func27, Tryd.ntmps27
  go_wp2_with fail
  refine (plans_any _ _ _ _ S _ hr hf HS.out).mono ?_
  rintro e w2 ⟨hp, hb2⟩
  have HB2 := Lib.hid hb2
  obtain ⟨bc2, bf2⟩ := bcell hb2
  have hz2 := hb2.size
  simp only [World.size_alloc] at hz2
  have hy2 : w.heap.size < w2.heap.size := by omega
  clear hb2
  rcases hp with ⟨ok, rfl⟩ | ⟨ok, hno, rfl⟩ | ⟨ok, hne, g2, c2, vs, rfl, hown, hrows⟩
  · have HE := Lib.hid (withinOut_bad (h := h) ok)
    go_wp2_with fail
    go_ret2
    exact ⟨by rw [HE.out]; rfl, bTrans HB.out HB2.out⟩
  · have HE := Lib.hid (within_no ok (h := h) (by rw [hno]; intro l hl; cases hl))
    clear hno
    go_wp2_with fail
    go_ret2
    exact ⟨by rw [HE.out]; rfl, bTrans HB.out HB2.out⟩
  · obtain ⟨hle, hlens⟩ := plans_lens ok
    obtain ⟨L, hL⟩ : ∃ L, L = S.plansL := ⟨_, rfl⟩
    rw [← hL] at hown hrows hne hle hlens
    have HLX := Lib.hid hL
    have HLE := Lib.hid hlens
    have HPL := Lib.hid (fun (l : List Int) (h : l ∈ L) => listed_plan (hL ▸ h : l ∈ S.plansL))
    rw [← hL]
    have HO := Lib.hid hown
    have HR := Lib.hid hrows
    have hg2 : g2 < w2.heap.size := (hown.lt g2 rfl).2
    clear hown hrows hne hL hlens
    go_wp2_with fail
    clear bc2 bf2
    go_loopw [8, 9, 10] (fun v f i wr => ∃ (k : Nat) (n : Int) (fd : Bool), v = .int .i64 n ∧ f = .bool fd ∧ i = .int .i64 k ∧ k ≤ L.length ∧ WithinTo S L h k n fd ∧ Below w2.heap.size w2 wr) (fun _ _ i _ => L.length - (intOf i).toNat)
    case atStart => exact ⟨0, 0, false, rfl, rfl, rfl, Nat.zero_le _, ⟨fun _ => ⟨rfl, fun j l h => absurd h (Nat.not_lt_zero _)⟩, fun e => by cases e⟩, Below.refl _ _⟩
    case round =>
      obtain ⟨k, n, fd, rfl, rfl, rfl, hk, hto, hbel⟩ := hrel
      have HTO := Lib.hid hto
      have HD4 := Lib.hid hbel
      have HB4 := Lib.hid (bTrans HB2.out hbel)
      obtain ⟨bc4, bf4⟩ := bcell HB4.out
      have hz4 := HB4.out.size
      simp only [World.size_alloc] at hz4
      have hy4 : w.heap.size < wr.heap.size := hz4
      have hg4 : g2 < wr.heap.size := Nat.lt_of_lt_of_le hg2 hbel.size
      clear hto hbel
      by_cases hlt : k < L.length
      · obtain ⟨l, hl⟩ : ∃ l, L[k]? = some l := ⟨_, List.getElem?_eq_getElem hlt⟩
        obtain ⟨Ak, mk, dk, hc, hmk, hint, _⟩ := Listed.at_ (owns_below HO.out HD4.out) (HR.out.mono HD4.out) hl
        have hlt2 : (k : Int) < (L.length : Int) := by omega
        obtain ⟨x, hx⟩ : ∃ x, S.costOf mk (gOf l) = x := ⟨_, rfl⟩
        obtain ⟨y, hy⟩ : ∃ y, S.hoursOf mk = y := ⟨_, rfl⟩
        have hm40 : mk ≤ 40 := by have := HLE.out l (List.mem_of_getElem? hl); omega
        have HX := Lib.hid hx
        have HY := Lib.hid hy
        have HI := Lib.hid hint
        have HL := Lib.hid hl
        have HXL := Lib.hid (show S.costOf l.length (gOf l) = x by rw [← hmk]; exact hx)
        have HYL := Lib.hid (show S.hoursOf l.length = y by rw [← hmk]; exact hy)
        have HRK := Lib.hid (show Rising 1 S.nf mk (gOf l) by rw [hmk]; exact (HPL.out l (List.mem_of_getElem? hl)).rising)
        have hcase : ((y ≤ h) = False ∧ WithinTo S L h (k + 1) n fd) ∨ ((y ≤ h) = True ∧ fd = true ∧ (x < n) = False ∧ WithinTo S L h (k + 1) n fd) ∨ ((y ≤ h) = True ∧ (fd = false ∨ (fd = true ∧ (x < n) = True)) ∧ WithinTo S L h (k + 1) x true) := by
          by_cases hyh : y ≤ h
          · have hh : S.hoursOf l.length ≤ h := by rw [HYL.out]; exact hyh
            cases fd with
            | false =>
              refine .inr (.inr ⟨eq_true hyh, .inl rfl, ?_⟩)
              rw [← HXL.out]
              exact HTO.out.take hl hh (fun e => by cases e)
            | true =>
              by_cases hxn : x < n
              · refine .inr (.inr ⟨eq_true hyh, .inr ⟨rfl, eq_true hxn⟩, ?_⟩)
                rw [← HXL.out]
                exact HTO.out.take hl hh (fun _ => by rw [HXL.out]; omega)
              · exact .inr (.inl ⟨eq_true hyh, rfl, eq_false hxn, HTO.out.skip hl (fun e => by cases e) (fun _ _ => by rw [HXL.out]; omega)⟩)
          · exact .inl ⟨eq_false hyh, HTO.out.skip hl (fun _ => by rw [HYL.out]; exact hyh) (fun _ hh => by rw [HYL.out] at hh; exact absurd hh hyh)⟩
        clear hx hy hint hl hmk
        rcases hcase with ⟨h1, h2⟩ | ⟨h1, rfl, h3, h2⟩ | ⟨h1, h3, h2⟩
        · have HZ := Lib.hid h2
          clear h2
          go_wp2_with fail
          refine wp_region_quiet_below (by kernel_rfl) (by kernel_rfl) ?_
          repeat (go_big_quiet_step (((first | (go_at_call 44; exact Calls.regrown_of (hoursOf_at _ _ _ _ S _ ok ((HS.out.mono HB4.out).mono (below_regrown _ _ _)) HY.out _ _ hm40)) | (go_at_call 30; exact Calls.regrown_of (costOf_at _ _ _ _ S _ ok ((HS.out.mono HB4.out).mono (below_regrown _ _ _)) HX.out _ _ (HI.out.mono (below_regrown _ _ _)) HRK.out))))))
          refine wpQuiet_nil ?_
          intro w5 hw5
          have HD5 := Lib.hid (bTrans HD4.out (below_of_regrown hw5))
          clear hw5
          go_wp2_with fail
          go_roundw
          case rel => exact ⟨k + 1, n, fd, rfl, rfl, by go_num, by omega, HZ.out, HD5.out⟩
          case measure => simp [intOf]; omega
        · have HZ := Lib.hid h2
          clear h2
          go_wp2_with fail
          refine wp_region_quiet_below (by kernel_rfl) (by kernel_rfl) ?_
          repeat (go_big_quiet_step (((first | (go_at_call 44; exact Calls.regrown_of (hoursOf_at _ _ _ _ S _ ok ((HS.out.mono HB4.out).mono (below_regrown _ _ _)) HY.out _ _ hm40)) | (go_at_call 30; exact Calls.regrown_of (costOf_at _ _ _ _ S _ ok ((HS.out.mono HB4.out).mono (below_regrown _ _ _)) HX.out _ _ (HI.out.mono (below_regrown _ _ _)) HRK.out))))))
          refine wpQuiet_nil ?_
          intro w5 hw5
          have HD5 := Lib.hid (bTrans HD4.out (below_of_regrown hw5))
          clear hw5
          go_wp2_with fail
          go_roundw
          case rel => exact ⟨k + 1, n, true, rfl, rfl, by go_num, by omega, HZ.out, HD5.out⟩
          case measure => simp [intOf]; omega
        · have HZ := Lib.hid h2
          clear h2
          rcases h3 with rfl | ⟨rfl, h3⟩
          all_goals
            go_wp2_with fail
            refine wp_region_quiet_below (by kernel_rfl) (by kernel_rfl) ?_
            repeat (go_big_quiet_step (((first | (go_at_call 44; exact Calls.regrown_of (hoursOf_at _ _ _ _ S _ ok ((HS.out.mono HB4.out).mono (below_regrown _ _ _)) HY.out _ _ hm40)) | (go_at_call 30; exact Calls.regrown_of (costOf_at _ _ _ _ S _ ok ((HS.out.mono HB4.out).mono (below_regrown _ _ _)) HX.out _ _ (HI.out.mono (below_regrown _ _ _)) HRK.out))))))
            refine wpQuiet_nil ?_
            intro w5 hw5
            have hb5 := below_of_regrown hw5
            have HD5 := Lib.hid (bTrans HD4.out hb5)
            have HB5 := Lib.hid (bTrans HB4.out hb5)
            have HI5 := Lib.hid (HI.out.mono hb5)
            obtain ⟨bc5, bf5⟩ := bcell HB5.out
            have hz5 := hb5.size
            have hy5 : w.heap.size < w5.heap.size := by omega
            have hg5 : g2 < w5.heap.size := by omega
            have hc5 := (hb5.cell (p := ⟨g2, k, none⟩) hg4).trans hc
            clear hw5 hb5 bc4 bf4 hz4 hy4 hg4 hc
            go_wp2_with fail
            refine wp_region_quiet_below (by kernel_rfl) (by kernel_rfl) ?_
            repeat (go_big_quiet_step ((go_at_call 30; exact Calls.regrown_of (costOf_at _ _ _ _ S _ ok ((HS.out.mono HB5.out).mono (below_regrown _ _ _)) HX.out _ _ (HI5.out.mono (below_regrown _ _ _)) HRK.out))))
            refine wpQuiet_nil ?_
            intro w6 hw6
            have HD6 := Lib.hid (bTrans HD5.out (below_of_regrown hw6))
            clear hw6
            go_wp2_with fail
            go_roundw
            case rel => exact ⟨k + 1, x, true, rfl, rfl, by go_num, by omega, HZ.out, HD6.out⟩
            case measure => simp [intOf]; omega
      · obtain rfl : k = L.length := by omega
        have hall : ∀ l ∈ S.plansL, ∃ j, j < L.length ∧ L[j]? = some l := fun l hl => by
          rw [← HLX.out] at hl
          obtain ⟨j, hj, e⟩ := List.getElem_of_mem hl
          exact ⟨j, hj, by rw [List.getElem?_eq_getElem hj, e]⟩
        cases fd
        · have HE := Lib.hid (within_no ok (h := h) (fun l hl => by
            obtain ⟨j, h1, h2⟩ := hall l hl
            exact (HTO.out.no rfl).2 j l h1 h2))
          clear hall
          go_wp2_with fail
          go_ret2
          exact ⟨by rw [HE.out]; rfl, bTrans HB.out HB4.out⟩
        · have HE := Lib.hid (within_yes ok (h := h) (n := n) (by rw [← HLX.out]; exact (HTO.out.yes rfl).1) (fun l hl => by
            obtain ⟨j, h1, h2⟩ := hall l hl
            exact (HTO.out.yes rfl).2 j l h1 h2))
          clear hall
          go_wp2_with fail
          go_ret2
          exact ⟨by rw [HE.out]; rfl, bTrans HB.out HB4.out⟩
end Go.Proofs.YtbbnpneabmldnaaDoor
