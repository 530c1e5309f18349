/- Walk: ShaftsSafer returns true. Condition: the way that there is not lies in its variable. -/
import Derived.Test.YtbbnpneabmldnaaDoorLawI
import Derived.Test.YtbbnpneabmldnaaDoorCopyB
import Derived.Test.YtbbnpneabmldnaaDoorPlanLaw
namespace Go.Proofs.YtbbnpneabmldnaaDoor
open Go.RowKit Go.Sort
/-- the shaft of the feet from a depth on -/
def Sh.low (S : Sh) (d : Nat) : Sh := ⟨S.nr, S.rock, S.nf - d, fun i => S.foot (d + i), S.deep, S.haul, S.rest⟩
theorem Sh.Ok.low {S : Sh} (h : S.Ok) {d : Nat} (hd : d ≤ S.nf) : (S.low d).Ok :=
  ⟨h.nr, Nat.le_trans (Nat.sub_le _ _) h.nf, h.rock, fun i hi => h.f0 (d + i) (by have : i < S.nf - d := hi; omega), fun i hi => h.f1 (d + i) (by have : i < S.nf - d := hi; omega), h.d0, h.d1, h.l0, h.l1, h.r0, h.r1⟩
theorem le_falls_iff {S : Sh} {a x : Nat} (hx : x ≤ S.nf) (_ : a ≤ x) : x ≤ S.falls a ↔ ∀ f, a ≤ f → f < x → S.fallsAt a f = false := by
  have h := firstFrom_spec (S.fallsAt a) (S.nf - a) a
  have e : S.falls a = firstFrom (S.fallsAt a) (S.nf - a) a := rfl
  constructor
  · intro h1 f h2 h3
    exact h.2.2.1 f h2 (by omega)
  · intro h1
    rcases Nat.lt_or_ge (S.falls a) x with h2 | h2
    · have h3 := h.2.2.2 (by omega)
      rw [← e, h1 _ (by omega) h2] at h3
      cases h3
    · exact h2
theorem minSt_shift {S T : Sh} {d : Nat} (hr : ∀ i, T.rk i = S.rk (d + i)) (a : Nat) : ∀ m, T.minSt a m = S.minSt (d + a) m
  | 0 => rfl
  | m + 1 => by simp only [Sh.minSt]; rw [minSt_shift hr a m, hr, Nat.add_assoc]
theorem fallsAt_shift {S T : Sh} {d : Nat} (hr : ∀ i, T.rk i = S.rk (d + i)) (a f : Nat) : T.fallsAt a f = S.fallsAt (d + a) (d + f) := by
  unfold Sh.fallsAt
  rw [minSt_shift hr, show d + f + 1 - (d + a) = f + 1 - a from by omega]
  congr 1
  have : ((d + f : Nat) : Int) - ((d + a : Nat) : Int) + 1 = (f : Int) - a + 1 := by omega
  rw [this]
theorem rk_first (S : Sh) (d i : Nat) : (S.first d).rk i = S.rk (0 + i) := by rw [Nat.zero_add]; rfl
theorem rk_low (S : Sh) (d i : Nat) : (S.low d).rk i = S.rk (d + i) := rfl
theorem okStep_first {S : Sh} {d a x : Nat} (hd : d ≤ S.nf) (hx : x ≤ d) : (S.first d).okStep a x ↔ S.okStep a x := by
  have hrest : (S.first d).restsB x = S.restsB x := rfl
  unfold Sh.okStep
  rw [hrest]
  constructor
  · rintro ⟨h1, h2, h3⟩
    refine ⟨h1, (le_falls_iff (by omega) (by omega)).2 fun f g1 g2 => ?_, h3⟩
    have := (le_falls_iff (S := S.first d) hx (by omega)).1 h2 f g1 g2
    rw [fallsAt_shift (rk_first S d), Nat.zero_add, Nat.zero_add] at this
    exact this
  · rintro ⟨h1, h2, h3⟩
    refine ⟨h1, (le_falls_iff (S := S.first d) hx (by omega)).2 fun f g1 g2 => ?_, h3⟩
    rw [fallsAt_shift (rk_first S d), Nat.zero_add, Nat.zero_add]
    exact (le_falls_iff (by omega) (by omega)).1 h2 f g1 g2
theorem okStep_low {S : Sh} {d a x : Nat} (hd : d ≤ S.nf) (hx : x ≤ S.nf - d) (h : (S.low d).okStep a x) : S.okStep (d + a) (d + x) := by
  obtain ⟨h1, h2, h3⟩ := h
  refine ⟨by omega, (le_falls_iff (by omega) (by omega)).2 fun f g1 g2 => ?_, ?_⟩
  · have := (le_falls_iff (S := S.low d) hx (by omega)).1 h2 (f - d) (by omega) (by omega)
    rw [fallsAt_shift (rk_low S d), show d + (f - d) = f from by omega] at this
    exact this
  · unfold Sh.restsB at h3 ⊢
    rw [rk_low, show d + (x - 1) = d + x - 1 from by omega] at h3
    exact h3
theorem chain_le {S : Sh} {l : List Nat} {a : Nat} (h : S.Chain a l) : ∀ x ∈ l, a < x ∧ x ≤ S.nf := by
  induction l generalizing a with
  | nil => intro x hx; cases hx
  | cons y l ih =>
    intro x hx
    have h1 := h.1.1
    have h2 := h.2.len
    rcases List.mem_cons.1 hx with rfl | hx
    · exact ⟨h1, by omega⟩
    · have := ih h.2 x hx; omega
theorem chain_append {S : Sh} {d : Nat} (hd : d ≤ S.nf) {l2 : List Nat} (h2 : S.Chain d l2) : ∀ {l1 : List Nat} {a : Nat}, (S.first d).Chain a l1 → S.Chain a (l1 ++ l2)
  | [], a, h => by
    have e : a = d := h
    subst e; exact h2
  | x :: l1, a, h => by
    have hx := (chain_le h x (by simp)).2
    exact ⟨(okStep_first hd hx).1 h.1, chain_append hd h2 h.2⟩
theorem chain_low {S : Sh} {d : Nat} (hd : d ≤ S.nf) : ∀ {l : List Nat} {a : Nat}, (S.low d).Chain a l → S.Chain (d + a) (l.map (d + ·))
  | [], a, h => by
    have e : a = S.nf - d := h
    show d + a = S.nf
    omega
  | x :: l, a, h => by
    have hx : x ≤ S.nf - d := (chain_le h x (by simp)).2
    exact ⟨okStep_low hd hx h.1, chain_low hd h.2⟩
theorem chain_upto {S : Sh} {d : Nat} (hd : d ≤ S.nf) : ∀ {l : List Nat} {a : Nat}, S.Chain a l → d ∈ l → ∃ l', (S.first d).Chain a l'
  | [], a, h, hm => by cases hm
  | x :: l, a, h, hm => by
    rcases List.mem_cons.1 hm with rfl | hm
    · exact ⟨[d], (okStep_first hd (Nat.le_refl _)).2 h.1, rfl⟩
    · have hx := (chain_le h.2 d hm).1
      obtain ⟨l', h'⟩ := chain_upto hd h.2 hm
      exact ⟨x :: l', (okStep_first hd (by omega)).2 h.1, h'⟩
theorem parts_has {S : Sh} {d a b : Nat} (hd : d ≤ S.nf) (ha : (S.first d).IsFew a) (hb : (S.low d).IsFew b) : S.Has ∧ ∀ m, S.IsFew m → m ≤ a + b := by
  obtain ⟨l1, h1, e1⟩ := ha.is
  obtain ⟨l2, h2, e2⟩ := hb.is
  have h3 := chain_low hd h2
  rw [Nat.add_zero] at h3
  have h4 := chain_append hd h3 h1
  refine ⟨⟨_, h4⟩, fun m hm => ?_⟩
  have := hm.least _ h4
  rw [List.length_append, List.length_map] at this
  omega
theorem parts_upto {S : Sh} {d m : Nat} {g : Nat → Int} (hd : d ≤ S.nf) (hP : S.Plan m g) (hin : ∃ i, i < m ∧ g i = (d : Int)) : (S.first d).Has := by
  obtain ⟨i, hi, e⟩ := hin
  refine chain_upto hd (plan_chain hP) ?_
  have := stopsL_get g m 0 i hi
  rw [Nat.zero_add, e] at this
  have := List.mem_of_getElem? this
  simpa using this
/-- all is the same but that rocks stand longer -/
structure Safer (S T : Sh) : Prop where
  nf : T.nf = S.nf
  seat : ∀ i, (T.rk i).seat = (S.rk i).seat
  pence : ∀ i, (T.rk i).pence = (S.rk i).pence
  stand : ∀ i, (S.rk i).stand ≤ (T.rk i).stand
  deep : T.deep = S.deep
  haul : T.haul = S.haul
section
variable {S T : Sh} (h : Safer S T)
include h
theorem Safer.minSt (a : Nat) : ∀ m, S.minSt a m ≤ T.minSt a m
  | 0 => Int.le_refl _
  | m + 1 => by simp only [Sh.minSt]; have := Safer.minSt a m; have := h.stand (a + m); omega
theorem Safer.fallsAt {a f : Nat} (hs : S.fallsAt a f = false) : T.fallsAt a f = false := by
  unfold Sh.fallsAt at hs ⊢
  have := h.minSt a (f + 1 - a)
  have h1 := of_decide_eq_false hs
  exact decide_eq_false (by omega)
theorem Safer.falls {a x : Nat} (hx : x ≤ S.nf) (ha : a ≤ x) (hs : x ≤ S.falls a) : x ≤ T.falls a :=
  (le_falls_iff (by rw [h.nf]; exact hx) ha).2 fun f h1 h2 => h.fallsAt ((le_falls_iff hx ha).1 hs f h1 h2)
theorem Safer.rests (d : Nat) : T.restsB d = S.restsB d := by unfold Sh.restsB; rw [h.seat]
theorem Safer.ringc (d : Nat) : T.ringc d = S.ringc d := by unfold Sh.ringc; rw [h.seat, h.haul]
theorem Safer.price (i : Nat) : T.price i = S.price i := by unfold Sh.price; rw [h.pence, h.deep]
theorem Safer.okStep {a x : Nat} (hx : x ≤ S.nf) (hs : S.okStep a x) : T.okStep a x :=
  ⟨hs.1, h.falls hx (Nat.le_of_lt hs.1) hs.2.1, by rw [h.rests]; exact hs.2.2⟩
theorem Safer.chain : ∀ {l : List Nat} {a : Nat}, S.Chain a l → T.Chain a l
  | [], a, hc => by
    have e : a = S.nf := hc
    show a = T.nf
    rw [h.nf]; exact e
  | x :: l, a, hc => ⟨h.okStep (chain_le hc x (by simp)).2 hc.1, Safer.chain hc.2⟩
theorem Safer.pay (l : List Nat) : T.pay l = S.pay l := by
  have h1 : ∀ l, costL T.ringc l = costL S.ringc l := fun l => by
    induction l with
    | nil => rfl
    | cons d l ih => simp only [costL, ih, h.ringc]
  unfold Sh.pay
  rw [h1, h.nf, sumTo_congr (fun i _ => h.price i)]
theorem Safer.has (hs : S.Has) : T.Has := by
  obtain ⟨l, hl⟩ := hs
  exact ⟨l, h.chain hl⟩
theorem Safer.few {m k : Nat} (h1 : S.IsFew m) (h2 : T.IsFew k) : k ≤ m := by
  obtain ⟨l, hl, e⟩ := h1.is
  have := h2.least l (h.chain hl)
  omega
theorem Safer.cheap {m k : Int} (h1 : S.IsCheap m) (h2 : T.IsCheap k) : k ≤ m := by
  obtain ⟨l, hl, e⟩ := h1.is
  have := h2.least l (h.chain hl)
  rw [h.pay] at this
  omega
theorem Safer.fallAt {mem : Nat → Bool} {f : Nat} (hs : S.fallAt mem f = false) : T.fallAt mem f = false := h.fallsAt hs
theorem Safer.firstFall (mem : Nat → Bool) : S.firstFall mem ≤ T.firstFall mem := by
  have h1 := firstFrom_spec (S.fallAt mem) S.nf 0
  have h2 := firstFrom_spec (T.fallAt mem) T.nf 0
  have e1 : S.firstFall mem = firstFrom (S.fallAt mem) S.nf 0 := rfl
  have e2 : T.firstFall mem = firstFrom (T.fallAt mem) T.nf 0 := rfl
  rcases Nat.lt_or_ge (T.firstFall mem) (S.firstFall mem) with h3 | h3
  · have h4 := h2.2.2.2 (by rw [← e2, h.nf]; omega)
    rw [h.fallAt (h1.2.2.1 _ (Nat.zero_le _) (by rw [← e1, ← e2]; exact h3))] at h4
    cases h4
  · exact h3
theorem Safer.firstFall_le (mem : Nat → Bool) : T.firstFall mem ≤ S.nf := by
  have h2 := firstFrom_spec (T.fallAt mem) T.nf 0
  have e2 : T.firstFall mem = firstFrom (T.fallAt mem) T.nf 0 := rfl
  rw [h.nf] at e2 h2
  omega
theorem Safer.plan {m : Nat} {g : Nat → Int} (hP : S.Plan m g) : T.Plan m g := by
  obtain ⟨h1, h2, h3, h4⟩ := hP
  refine ⟨by rw [h.nf]; exact h1, ?_, fun i hi => by rw [h.rests]; exact h3 i hi, by rw [h.nf]; exact h4⟩
  have := h.firstFall (memOf m g)
  have := h.firstFall_le (memOf m g)
  rw [h.nf]
  omega
end
/-- the shaft with a rock that stands longer -/
def Sh.safer (S : Sh) (k : Nat) (t : Int) : Sh := ⟨S.nr, fun i => if i = k then ⟨(S.rock k).hours, (S.rock k).pence, (S.rock k).stand + t, (S.rock k).seat⟩ else S.rock i, S.nf, S.foot, S.deep, S.haul, S.rest⟩
theorem safer_is (S : Sh) (k : Nat) {t : Int} (ht : 0 ≤ t) : Safer S (S.safer k t) := by
  have hr : ∀ i, (S.safer k t).rk i = if (S.foot i).toNat = k then ⟨(S.rock k).hours, (S.rock k).pence, (S.rock k).stand + t, (S.rock k).seat⟩ else S.rk i := fun i => rfl
  refine ⟨rfl, fun i => ?_, fun i => ?_, fun i => ?_, rfl, rfl⟩ <;> rw [hr] <;> split <;> rename_i e
  · rw [← e]; rfl
  · rfl
  · rw [← e]; rfl
  · rfl
  · show (S.rock (S.foot i).toNat).stand ≤ _
    rw [e]
    show (S.rock k).stand ≤ (S.rock k).stand + t
    omega
  · exact Int.le_refl _
theorem rocks_set {w : World} {b n : Nat} {f f' : Nat → Rock} (h : RocksAt w (some ⟨b, 0, none⟩) n f) {k : Nat} (hk : k < n) {v : Int} (hf : ∀ i, i ≠ k → f' i = f i) (h0 : (f' k).hours = (f k).hours) (h1 : (f' k).pence = (f k).pence) (h2 : (f' k).stand = v) (h3 : (f' k).seat = (f k).seat) :
    RocksAt (w.setCell ⟨b, k * 4 + 2, none⟩ (.int .i64 v)) (some ⟨b, 0, none⟩) n f' := by
  rcases h with h | ⟨b', o', e, hlt, hc⟩
  · omega
  · injection e with e
    injection e with e1 e2
    subst e1 e2
    refine .inr ⟨b, 0, rfl, by simpa [World.setCell] using hlt, fun i hi => ?_⟩
    obtain ⟨c0, c1, c2, c3⟩ := hc i hi
    have other : ∀ j, j ≠ k * 4 + 2 → (w.setCell ⟨b, k * 4 + 2, none⟩ (.int .i64 v)).cell? ⟨b, j, none⟩ = w.cell? ⟨b, j, none⟩ := fun j hj => World.cell?_setCell_other _ _ _ _ (fun e => by injection e with _ e; omega)
    simp only [Nat.zero_add] at c0 c1 c2 c3 ⊢
    by_cases e : i = k
    · subst e
      refine ⟨(other _ (by omega)).trans (by rw [h0]; exact c0), (other _ (by omega)).trans (by rw [h1]; exact c1), ?_, (other _ (by omega)).trans (by rw [h3]; exact c3)⟩
      rw [World.cell?_setCell_same _ _ _ c2, h2]
    · rw [hf i e]
      exact ⟨(other _ (by omega)).trans c0, (other _ (by omega)).trans c1, (other _ (by omega)).trans c2, (other _ (by omega)).trans c3⟩
theorem ints_set {w : World} {b n j : Nat} {A : Option Addr} {f : Nat → Int} {v : Value} (h : IntsAt w A n f) (hA : ∀ b', 0 < n → A = some ⟨b', 0, none⟩ → b' ≠ b) (h0 : 0 < n → ∃ b', A = some ⟨b', 0, none⟩) : IntsAt (w.setCell ⟨b, j, none⟩ v) A n f := by
  rcases h with h | ⟨b', o', rfl, hlt, hc⟩
  · exact .inl h
  · by_cases hn : n = 0
    · exact .inl hn
    · obtain ⟨b2, e⟩ := h0 (by omega)
      injection e with e
      injection e with e1 e2
      subst e1 e2
      have hne := hA _ (by omega) rfl
      exact .inr ⟨b', 0, rfl, by simpa [World.setCell] using hlt, fun i hi => (World.cell?_setCell_other _ _ _ _ (fun e => by injection e with e _; omega)).trans (hc i hi)⟩
/-- the answers of Good -/
theorem safer_good {S T : Sh} (h : Safer S T) (ok : S.Ok) (okT : T.Ok) {m : Nat} {g : Nat → Int} :
    ∃ x y, S.goodOut m g = (x, 0) ∧ T.goodOut m g = (y, 0) ∧ ((x = false) ∨ (x = true ∧ y = true)) := by
  refine ⟨_, _, goodOut_ok ok, goodOut_ok okT, ?_⟩
  cases e : S.planB m g
  · exact .inl rfl
  · exact .inr ⟨rfl, Sh.planB_t (h.plan (Sh.planB_iff.1 e))⟩
/-- the answers of Falls, of one shaft and of the safer one -/
theorem safer_falls {S T : Sh} (h : Safer S T) (ok : S.Ok) (okT : T.Ok) {m : Nat} {g : Nat → Int} (hR : Rising 1 S.nf m g) :
    ∃ x e y f, S.fallsOut m g = (x, e) ∧ T.fallsOut m g = (y, f) ∧ ((e = 3 ∧ f = 3) ∨ (e = 0 ∧ f = 3) ∨ (e = 0 ∧ f = 0 ∧ x ≤ y)) := by
  have hr1 := rising_iff.2 hR
  have hr2 : risingB 1 T.nf m g = true := by rw [h.nf]; exact hr1
  have hle := h.firstFall (memOf m g)
  have hle2 := h.firstFall_le (memOf m g)
  by_cases h1 : S.firstFall (memOf m g) = S.nf
  · have h2 : T.firstFall (memOf m g) = T.nf := by rw [h.nf]; omega
    exact ⟨_, _, _, _, fallsOut_none ok hr1 h1, fallsOut_none okT hr2 h2, .inl ⟨rfl, rfl⟩⟩
  · by_cases h2 : T.firstFall (memOf m g) = T.nf
    · exact ⟨_, _, _, _, fallsOut_some ok hr1 h1, fallsOut_none okT hr2 h2, .inr (.inl ⟨rfl, rfl⟩)⟩
    · exact ⟨_, _, _, _, fallsOut_some ok hr1 h1, fallsOut_some okT hr2 h2, .inr (.inr ⟨rfl, rfl, by omega⟩)⟩
set_option maxHeartbeats 8000000 in
set_option maxRecDepth 100000 in
theorem ShaftsSafer_any (Ar Af : Option Addr) (cr cf : Nat) (S : Sh) (x t : Int) (A : Option Addr) (m c : Nat) (g : Nat → Int) (w : World) (hr : S.nr ≤ 9223372036854775807) (hf : S.nf ≤ 9223372036854775807) (hS : ShAt w Ar Af S) (hN : NoneAt w) (hg : IntsAt w A m g) (hm : m ≤ 9223372036854775807) :
    Calls Tryd.prog 11 #[.agg #[.slice Ar S.nr cr, .slice Af S.nf cf, .int .i64 S.deep, .int .i64 S.haul, .int .i64 S.rest], .agg #[.int .i64 x, .int .i64 t], .slice A m c] w fun e w' => e = .returned (.bool true) ∧ Below w.heap.size w w' := by
  have hb0 := bAlloc (bAlloc (Below.refl w.heap.size w) (.cells #[.slice Ar S.nr cr, .slice Af S.nf cf, .int .i64 S.deep, .int .i64 S.haul, .int .i64 S.rest] 25)) (.cells #[.int .i64 x, .int .i64 t] 60)
  have HS := Lib.hid (hS.mono hb0)
  have HN := Lib.hid (hN.mono hb0)
  have HG := Lib.hid (hg.mono hb0)
  have HB := Lib.hid hb0
  clear hS hN hg hb0
  by_cases hgo : S.Ok ∧ inR x 0 ((S.nr : Int) - 1) = true ∧ inR t 0 12 = true ∧ ¬ 40 < m
  · obtain ⟨ok, hix, hit, hm40⟩ := hgo
    have hnr := ok.nr
    have hnf := ok.nf
    obtain ⟨t0, t1⟩ := inR_iff.1 hit
    obtain ⟨k, rfl⟩ : ∃ k : Nat, x = k := ⟨x.toNat, by have := inR_iff.1 hix; omega⟩
    have hk : k < S.nr := by have := inR_iff.1 hix; omega
    have s0 := (ok.rock k hk).s0
    have s1 := (ok.rock k hk).s1
    have hi40 : ((40 : Int) < (m : Int)) = False := by simp; omega
    go_enter Tryd.func11, Tryd.ntmps11
    go_wp2_with fail
    refine (ready_any _ _ _ _ S _ hr hf HS.out).mono ?_
    rintro e w1 ⟨bt, rfl, hbb, hb1⟩
    obtain rfl : bt = true := hbb.2 ok
    have HB1 := Lib.hid hb1
    obtain ⟨bc1, bf1⟩ := bcell hb1
    have hz1 := hb1.size
    simp only [World.size_alloc] at hz1
    have hy1 : w.heap.size < w1.heap.size := by omega
    have hx1 : w.heap.size + 1 < w1.heap.size := by omega
    clear hb1 hbb
    go_wp2_with fail
    refine (isRock_any _ _ _ _ S _ _ hr).mono ?_
    rintro e w2 ⟨rfl, hb2⟩
    have HB2 := Lib.hid (bTrans HB1.out hb2)
    obtain ⟨bc2, bf2⟩ := bcell HB2.out
    have hz2 := HB2.out.size
    simp only [World.size_alloc] at hz2
    have hy2 : w.heap.size < w2.heap.size := by omega
    have hx2 : w.heap.size + 1 < w2.heap.size := by omega
    clear hb2 bc1 bf1 hz1 hy1 hx1 HB1
    go_wp2_with (go_at_call 32; refine (Within01_any _ _ _ _).mono ?_; rintro e w2' ⟨rfl, rfl⟩)
    refine (Copy_own _ _ _ _ S _ (by omega) (by omega) (HS.out.mono HB2.out)).mono ?_
    rintro e w3 ⟨⟨A2, F2, c2, d2, rfl, hS2, hFr, hFf, hP1, hP2⟩, hb3⟩
    obtain ⟨b, e, hbl, hfz⟩ := hFr.2.2.2 (by omega)
    subst e
    have hbb : w2.heap.size ≤ b := by
      obtain ⟨p, e, hp⟩ := hFr.2.2.1
      injection e with e
      subst e
      exact hp
    have hz23 : w.heap.size + 1 < b := by omega
    have HB3 := Lib.hid (bTrans HB2.out hb3)
    obtain ⟨bc3, bf3⟩ := bcell HB3.out
    have hz3 := HB3.out.size
    simp only [World.size_alloc] at hz3
    have hy3 : w.heap.size < w3.heap.size := by omega
    have hx3 : w.heap.size + 1 < w3.heap.size := by omega
    rcases id hS2.rocks with h0 | ⟨b', o', e, _, hcell⟩
    · omega
    injection e with e
    injection e with e1 e2
    subst e1 e2
    obtain ⟨_, _, k2, _⟩ := hcell k hk
    have hfz2 := hfz (k * 4 + 2)
    simp only [Nat.zero_add] at k2
    have HS3 := Lib.hid hS2
    have HP1 := Lib.hid hP1
    have HP2 := Lib.hid hP2
    have HFF := Lib.hid hFf
    clear hb3 hS2 hFr hFf hP1 hP2 hcell hfz bc2 bf2 hz2 hy2 hx2 HB2
    go_wp2_with fail
    have e1 : IntKind.i64.wrap ((S.rock k).stand + t) = (S.rock k).stand + t := IntWalk.i64_in _ (by omega)
    have j1 : (0 : Int) ≤ (k : Int) := by omega
    have j2 : (k : Int) < (S.nr : Int) := by omega
    refine wp_region_held 12 [.const (.pointer (some ⟨w3.heap.size, 0, none⟩)), .const (.slice (some ⟨b, 0, none⟩) S.nr c2), .const (.pointer (some ⟨w.heap.size + 1, 0, none⟩)), .const (.int .i64 k), .const (.pointer (some ⟨b, k * 4, none⟩)), .const (.pointer (some ⟨b, k * 4 + 2, none⟩)), .const (.int .i64 (S.rock k).stand),
      .const (.pointer (some ⟨w.heap.size + 1, 1, none⟩)), .const (.int .i64 t), .const (.int .i64 ((S.rock k).stand + t)), .const (.pointer (some ⟨b, k * 4, none⟩)), .const (.pointer (some ⟨b, k * 4 + 2, none⟩))] (by kernel_rfl) (by kernel_rfl) rfl ⟨trivial, trivial, trivial, trivial, trivial, trivial, trivial, trivial, trivial, trivial, trivial, trivial, trivial⟩ ?_
    iterate 12 refine wpHeld_const (by go_simp) ?_
    refine wpHeld_end (fun w4 hb4 hd => ?_)
    clear hd
    simp only [List.drop_succ_cons, List.drop_zero]
    simp only [Act.put, List.setIfInBounds_toArray, List.set_cons_succ, List.set_cons_zero]
    clear e1 j1 j2
    have hz34 := hb4.size
    simp only [World.size_alloc] at hz34
    have bx4 := bcell hb4
    have k4 : w4.cell? ⟨b, k * 4 + 2, none⟩ = some (.int .i64 (S.rock k).stand) := (bx4.1 b _ (by simp only [World.size_alloc]; omega)).trans ((World.cell?_alloc_past _ _ _ hbl).trans k2)
    have hfz4 : w4.frozen? ⟨b, k * 4 + 2, none⟩ = false := (bx4.2 b _ (by simp only [World.size_alloc]; omega)).trans ((World.frozen?_alloc_past _ _ _ hbl).trans hfz2)
    clear bc3 bf3 hz3 hy3 hx3
    have hzW := HB3.out.size
    have hb3W : ((w.alloc (.cells #[.slice Ar S.nr cr, .slice Af S.nf cf, .int .i64 S.deep, .int .i64 S.haul, .int .i64 S.rest] 25)).alloc (.cells #[.int .i64 k, .int .i64 t] 60)).heap.size ≤ b := by simp only [World.size_alloc]; omega
    have HB4 := Lib.hid (bTrans (bAlloc HB3.out (.cells #[.slice (some ⟨b, 0, none⟩) S.nr c2, .slice F2 S.nf d2, .int .i64 S.deep, .int .i64 S.haul, .int .i64 S.rest] 25)) hb4)
    have HS4 := Lib.hid (HS3.out.mono (bTrans (bAlloc (Below.refl w3.heap.size w3) (.cells #[.slice (some ⟨b, 0, none⟩) S.nr c2, .slice F2 S.nf d2, .int .i64 S.deep, .int .i64 S.haul, .int .i64 S.rest] 25)) hb4))
    have bn4 := bx4.1
    have bm4 := bx4.2
    clear bx4
    obtain ⟨bc4, bf4⟩ := bcell HB4.out
    have hz4 := HB4.out.size
    simp only [World.size_alloc] at hz4
    have hy4 : w.heap.size < w4.heap.size := by omega
    have hx4 : w.heap.size + 1 < w4.heap.size := by omega
    go_wp2_with fail
    have HI := Lib.hid (safer_is S k t0)
    have hW5 := bSet (p := ⟨b, k * 4 + 2, none⟩) hb3W HB4.out (.int .i64 ((S.rock k).stand + t))
    obtain ⟨w5, hw5⟩ : ∃ w5, w5 = w4.setCell ⟨b, k * 4 + 2, none⟩ (.int .i64 ((S.rock k).stand + t)) := ⟨_, rfl⟩
    have hT : ShAt (w4.setCell ⟨b, k * 4 + 2, none⟩ (.int .i64 ((S.rock k).stand + t))) (some ⟨b, 0, none⟩) F2 (S.safer k t) :=
      ⟨rocks_set HS4.out.rocks hk (fun i hi => if_neg hi) (by simp [Sh.safer]) (by simp [Sh.safer]) (by simp [Sh.safer]) (by simp [Sh.safer]),
       ints_set HS4.out.feet (fun b' hn e => by
         subst e
         exact fun e => HP1.out.apart HP2.out (by omega) hn (by decide) e.symm) (fun hn => by
         obtain ⟨b', e, _⟩ := HFF.out.2.2.2 hn
         exact ⟨b', e⟩)⟩
    rw [← hw5] at hT hW5 ⊢
    have HT := Lib.hid hT
    have HB5 := Lib.hid hW5
    have hlt5 : w3.heap.size < w5.heap.size := by
      rw [hw5]
      simp only [World.size_setCell]
      omega
    have HCX := Lib.hid (show ∀ o, w5.cell? ⟨w3.heap.size, o, none⟩ = (w3.alloc (.cells #[.slice (some ⟨b, 0, none⟩) S.nr c2, .slice F2 S.nf d2, .int .i64 S.deep, .int .i64 S.haul, .int .i64 S.rest] 25)).cell? ⟨w3.heap.size, o, none⟩ from fun o => by
      rw [hw5, World.cell?_setCell_other _ _ _ _ (fun e => by injection e with e _; omega)]
      exact bn4 _ o (by simp only [World.size_alloc]; omega))
    have HD5 := Lib.hid (Below.refl w5.heap.size w5)
    clear hT hW5 hw5 HS3 HS4 HP1 HP2 HFF bn4 bm4 bc4 bf4 hz4 hy4 hx4 HB4 k4 hfz4 hbl hbb hb3W hz23 hz34 hzW HB3 k2 hfz2 hb4
    refine (ready_any _ _ _ _ (S.safer k t) _ hr hf HT.out).mono ?_
    rintro e w6 ⟨bt, rfl, hbb, hb6⟩
    have HD6 := Lib.hid (bTrans HD5.out hb6)
    have HB6 := Lib.hid (bTrans HB5.out HD6.out)
    have hu6 : w3.heap.size < w6.heap.size := Nat.lt_of_lt_of_le hlt5 HD6.out.size
    have cx6 : ∀ o, w6.cell? ⟨w3.heap.size, o, none⟩ = (w3.alloc (.cells #[.slice (some ⟨b, 0, none⟩) S.nr c2, .slice F2 S.nf d2, .int .i64 S.deep, .int .i64 S.haul, .int .i64 S.rest] 25)).cell? ⟨w3.heap.size, o, none⟩ := fun o => (HD6.out.cell (p := ⟨w3.heap.size, o, none⟩) hlt5).trans (HCX.out o)
    obtain ⟨bc6, bf6⟩ := bcell HB6.out
    have hz6 := HB6.out.size
    simp only [World.size_alloc] at hz6
    have hy6 : w.heap.size < w6.heap.size := by omega
    have hx6 : w.heap.size + 1 < w6.heap.size := by omega
    clear hb6 
    cases bt
    · clear hbb
      go_wp2_with fail
      refine (works_any _ (HN.out.mono HB6.out)).mono ?_
      rintro e w7 ⟨rfl, hb7⟩
      go_wp2_with fail
      go_ret
      exact ⟨rfl, bTrans HB.out (bTrans HB6.out hb7)⟩
    · have okT : (S.safer k t).Ok := hbb.1 rfl
      clear hbb
      go_wp2_with fail
      refine (lawBest_any _ _ _ _ S _ ok (HS.out.mono HB6.out) (HN.out.mono HB6.out)).mono ?_
      rintro e w7 ⟨⟨m1, n1, i1, rfl, hm1, hn1, hn1', hbest1⟩, hb7⟩
      have HBE1 := Lib.hid hbest1
      clear hbest1
      have HD7 := Lib.hid (bTrans HD6.out hb7)
      have HB7 := Lib.hid (bTrans HB5.out HD7.out)
      have hu7 : w3.heap.size < w7.heap.size := Nat.lt_of_lt_of_le hlt5 HD7.out.size
      have cx7 : ∀ o, w7.cell? ⟨w3.heap.size, o, none⟩ = (w3.alloc (.cells #[.slice (some ⟨b, 0, none⟩) S.nr c2, .slice F2 S.nf d2, .int .i64 S.deep, .int .i64 S.haul, .int .i64 S.rest] 25)).cell? ⟨w3.heap.size, o, none⟩ := fun o => (HD7.out.cell (p := ⟨w3.heap.size, o, none⟩) hlt5).trans (HCX.out o)
      obtain ⟨bc7, bf7⟩ := bcell HB7.out
      have hz7 := HB7.out.size
      simp only [World.size_alloc] at hz7
      have hy7 : w.heap.size < w7.heap.size := by omega
      have hx7 : w.heap.size + 1 < w7.heap.size := by omega
      clear hb7 bc6 bf6 hz6 hy6 hx6 HB6 HD6 cx6 hu6
      go_wp2_with fail
      refine (lawBest_any _ _ _ _ (S.safer k t) _ okT (HT.out.mono HD7.out) (HN.out.mono HB7.out)).mono ?_
      rintro e w8 ⟨⟨m2, n2, i2, rfl, hm2, hn2, hn2', hbest2⟩, hb8⟩
      have HBE2 := Lib.hid hbest2
      clear hbest2
      have HD8 := Lib.hid (bTrans HD7.out hb8)
      have HB8 := Lib.hid (bTrans HB5.out HD8.out)
      have hu8 : w3.heap.size < w8.heap.size := Nat.lt_of_lt_of_le hlt5 HD8.out.size
      have cx8 : ∀ o, w8.cell? ⟨w3.heap.size, o, none⟩ = (w3.alloc (.cells #[.slice (some ⟨b, 0, none⟩) S.nr c2, .slice F2 S.nf d2, .int .i64 S.deep, .int .i64 S.haul, .int .i64 S.rest] 25)).cell? ⟨w3.heap.size, o, none⟩ := fun o => (HD8.out.cell (p := ⟨w3.heap.size, o, none⟩) hlt5).trans (HCX.out o)
      obtain ⟨bc8, bf8⟩ := bcell HB8.out
      have hz8 := HB8.out.size
      simp only [World.size_alloc] at hz8
      have hy8 : w.heap.size < w8.heap.size := by omega
      have hx8 : w.heap.size + 1 < w8.heap.size := by omega
      clear hb8 bc7 bf7 hz7 hy7 hx7 HB7 HD7 cx7 hu7
      have hcs : i1 = false ∨ (i1 = true ∧ i2 = true ∧ decide (m1 < m2) = false ∧ decide (n1 < n2) = false ∧ ¬ m1 < m2 ∧ ¬ n1 < n2) := by
        rcases HBE1.out with ⟨q1, q2, q3, q4⟩ | ⟨q1, _⟩
        · rcases HBE2.out with ⟨k1, k2, k3, k4⟩ | ⟨k1, k2, _⟩
          · have a1 := HI.out.few q3 k3
            have a2 := HI.out.cheap q4 k4
            exact .inr ⟨q1, k1, by simp; omega, by simp; omega, by omega, by omega⟩
          · exact absurd (HI.out.has q2) k2
        · exact .inl q1
      clear HBE1 HBE2
      obtain ⟨x1, y1, hg1, hg2, hxy⟩ := safer_good HI.out ok okT (m := m) (g := g)
      have HGO1 := Lib.hid hg1
      have HGO2 := Lib.hid hg2
      clear hg1 hg2
      have HR := Lib.hid (show (risingB 1 S.nf m g = true → ∃ x e y f, S.fallsOut m g = (x, e) ∧ (S.safer k t).fallsOut m g = (y, f) ∧ ((e = 3 ∧ f = 3) ∨ (e = 0 ∧ f = 3) ∨ (e = 0 ∧ f = 0 ∧ x ≤ y))) from fun h => safer_falls HI.out ok okT (rising_iff.1 h))
      clear HI okT
      rcases hcs with rfl | ⟨rfl, rfl, z1, z2, z3, z4⟩
      all_goals
        go_wp2_with fail
        refine wp_region_held 9 [.const (.agg #[.slice Ar S.nr cr, .slice Af S.nf cf, .int .i64 S.deep, .int .i64 S.haul, .int .i64 S.rest]), .const (.slice A m c), .held (copyS m) (copyR 0 m (intL g m)), .const (.tuple #[.bool x1, .int .i64 0]), .const (.tuple #[.bool x1, .int .i64 0]), .const (.bool x1), .const (.int .i64 0), .const (.bool x1), .const (.int .i64 0)] (by kernel_rfl) (by kernel_rfl) rfl ⟨trivial, trivial, copyG _ _ _, trivial, trivial, trivial, trivial, trivial, trivial, trivial⟩ ?_
        refine wpHeld_const (by go_simp) ?_
        refine wpHeld_const (by go_simp) ?_
        refine wpHeld_held rfl (fun w' hb hd => ?_) (fun v hv => ?_)
        · go_simp
          refine (copied_any _ _ _ g _ (by omega) ((HG.out.mono HB8.out).mono hb)).mono ?_
          rintro e w'' ⟨⟨A', c', rfl, h1, h2⟩, hb'⟩
          exact ⟨_, rfl, hb', ⟨_, _, rfl⟩, _, _, rfl, intsAt_row.1 h1, h2.base (Nat.zero_le _)⟩
        obtain ⟨Ad, cd, rfl⟩ := hv
        refine wpHeld_call rfl (fun w' hb hd => ?_) ?_
        · have hrow := intsAt_row.2 (copyR_get (hd.1 (by kernel_rfl))).1
          clear hd
          go_simp
          refine (Good_at HGO1.out _ _ _ _ _ hr hf ((HS.out.mono HB8.out).mono hb) _ _ hm hrow).mono ?_
          rintro e w'' ⟨he, hb'⟩
          exact ⟨he, hb'⟩
        refine wpHeld_const (by go_simp) ?_
        refine wpHeld_const (by go_simp) ?_
        refine wpHeld_const (by go_simp) ?_
        refine wpHeld_const (by go_simp) ?_
        refine wpHeld_const (by go_simp) ?_
        refine wpHeld_end (fun w9 hb9 hd => ?_)
        clear hd
        simp only [List.drop_succ_cons, List.drop_zero]
        simp only [Act.put, List.setIfInBounds_toArray, List.set_cons_succ, List.set_cons_zero]
        have HD9 := Lib.hid (bTrans HD8.out hb9)
        have HB9 := Lib.hid (bTrans HB5.out HD9.out)
        have hu9 : w3.heap.size < w9.heap.size := Nat.lt_of_lt_of_le hlt5 HD9.out.size
        have cx9 : ∀ o, w9.cell? ⟨w3.heap.size, o, none⟩ = (w3.alloc (.cells #[.slice (some ⟨b, 0, none⟩) S.nr c2, .slice F2 S.nf d2, .int .i64 S.deep, .int .i64 S.haul, .int .i64 S.rest] 25)).cell? ⟨w3.heap.size, o, none⟩ := fun o => (HD9.out.cell (p := ⟨w3.heap.size, o, none⟩) hlt5).trans (HCX.out o)
        obtain ⟨bc9, bf9⟩ := bcell HB9.out
        have hz9 := HB9.out.size
        simp only [World.size_alloc] at hz9
        have hy9 : w.heap.size < w9.heap.size := by omega
        have hx9 : w.heap.size + 1 < w9.heap.size := by omega
        clear hb9 bc8 bf8 hz8 hy8 hx8 HB8 HD8 cx8 hu8
        go_wp2_with fail
        refine wp_region_held 9 [.const (.agg #[.slice (some ⟨b, 0, none⟩) S.nr c2, .slice F2 S.nf d2, .int .i64 S.deep, .int .i64 S.haul, .int .i64 S.rest]), .const (.slice A m c), .held (copyS m) (copyR 0 m (intL g m)), .const (.tuple #[.bool y1, .int .i64 0]), .const (.tuple #[.bool y1, .int .i64 0]), .const (.bool y1), .const (.int .i64 0), .const (.bool y1), .const (.int .i64 0)] (by kernel_rfl) (by kernel_rfl) rfl ⟨trivial, trivial, copyG _ _ _, trivial, trivial, trivial, trivial, trivial, trivial, trivial⟩ ?_
        refine wpHeld_const (by go_simp) ?_
        refine wpHeld_const (by go_simp) ?_
        refine wpHeld_held rfl (fun w' hb hd => ?_) (fun v hv => ?_)
        · go_simp
          refine (copied_any _ _ _ g _ (by omega) ((HG.out.mono HB9.out).mono hb)).mono ?_
          rintro e w'' ⟨⟨A', c', rfl, h1, h2⟩, hb'⟩
          exact ⟨_, rfl, hb', ⟨_, _, rfl⟩, _, _, rfl, intsAt_row.1 h1, h2.base (Nat.zero_le _)⟩
        obtain ⟨Ad, cd, rfl⟩ := hv
        refine wpHeld_call rfl (fun w' hb hd => ?_) ?_
        · have hrow := intsAt_row.2 (copyR_get (hd.1 (by kernel_rfl))).1
          clear hd
          go_simp
          refine (Good_at HGO2.out _ _ _ _ _ hr hf ((HT.out.mono HD9.out).mono hb) _ _ hm hrow).mono ?_
          rintro e w'' ⟨he, hb'⟩
          exact ⟨he, hb'⟩
        refine wpHeld_const (by go_simp) ?_
        refine wpHeld_const (by go_simp) ?_
        refine wpHeld_const (by go_simp) ?_
        refine wpHeld_const (by go_simp) ?_
        refine wpHeld_const (by go_simp) ?_
        refine wpHeld_end (fun w10 hb10 hd => ?_)
        clear hd
        simp only [List.drop_succ_cons, List.drop_zero]
        simp only [Act.put, List.setIfInBounds_toArray, List.set_cons_succ, List.set_cons_zero]
        have HD10 := Lib.hid (bTrans HD9.out hb10)
        have HB10 := Lib.hid (bTrans HB5.out HD10.out)
        have hu10 : w3.heap.size < w10.heap.size := Nat.lt_of_lt_of_le hlt5 HD10.out.size
        have cx10 : ∀ o, w10.cell? ⟨w3.heap.size, o, none⟩ = (w3.alloc (.cells #[.slice (some ⟨b, 0, none⟩) S.nr c2, .slice F2 S.nf d2, .int .i64 S.deep, .int .i64 S.haul, .int .i64 S.rest] 25)).cell? ⟨w3.heap.size, o, none⟩ := fun o => (HD10.out.cell (p := ⟨w3.heap.size, o, none⟩) hlt5).trans (HCX.out o)
        obtain ⟨bc10, bf10⟩ := bcell HB10.out
        have hz10 := HB10.out.size
        simp only [World.size_alloc] at hz10
        have hy10 : w.heap.size < w10.heap.size := by omega
        have hx10 : w.heap.size + 1 < w10.heap.size := by omega
        clear hb10 bc9 bf9 hz9 hy9 hx9 HB9 HD9 cx9 hu9
        rcases hxy with rfl | ⟨rfl, rfl⟩
        all_goals
          clear HGO1 HGO2
          go_wp2_with fail
          cases hri : risingB 1 S.nf m g
          · refine (areStops_ref _ _ _ _ S _ _ _ g _ hm (HG.out.mono HB10.out)).mono ?_
            rintro e w11 ⟨rfl, hb11⟩
            rw [hri]
            have HD11 := Lib.hid (bTrans HD10.out hb11)
            have HB11 := Lib.hid (bTrans HB5.out HD11.out)
            have hu11 : w3.heap.size < w11.heap.size := Nat.lt_of_lt_of_le hlt5 HD11.out.size
            have cx11 : ∀ o, w11.cell? ⟨w3.heap.size, o, none⟩ = (w3.alloc (.cells #[.slice (some ⟨b, 0, none⟩) S.nr c2, .slice F2 S.nf d2, .int .i64 S.deep, .int .i64 S.haul, .int .i64 S.rest] 25)).cell? ⟨w3.heap.size, o, none⟩ := fun o => (HD11.out.cell (p := ⟨w3.heap.size, o, none⟩) hlt5).trans (HCX.out o)
            obtain ⟨bc11, bf11⟩ := bcell HB11.out
            have hz11 := HB11.out.size
            simp only [World.size_alloc] at hz11
            have hy11 : w.heap.size < w11.heap.size := by omega
            have hx11 : w.heap.size + 1 < w11.heap.size := by omega
            clear hb11 bc10 bf10 hz10 hy10 hx10 HB10 HD10 cx10 hu10
            go_wp2_with fail
            refine (works_any _ (HN.out.mono HB11.out)).mono ?_
            rintro e w12 ⟨rfl, hb12⟩
            go_wp2_with fail
            go_ret
            exact ⟨rfl, bTrans HB.out (bTrans HB11.out hb12)⟩
          · obtain ⟨x2, e2, y2, f2, hf1, hf2, hef⟩ := HR.out hri
            have HFO1 := Lib.hid hf1
            have HFO2 := Lib.hid hf2
            clear hf1 hf2
            refine (areStops_ref _ _ _ _ S _ _ _ g _ hm (HG.out.mono HB10.out)).mono ?_
            rintro e w11 ⟨rfl, hb11⟩
            rw [hri]
            clear hri
            have HD11 := Lib.hid (bTrans HD10.out hb11)
            have HB11 := Lib.hid (bTrans HB5.out HD11.out)
            have hu11 : w3.heap.size < w11.heap.size := Nat.lt_of_lt_of_le hlt5 HD11.out.size
            have cx11 : ∀ o, w11.cell? ⟨w3.heap.size, o, none⟩ = (w3.alloc (.cells #[.slice (some ⟨b, 0, none⟩) S.nr c2, .slice F2 S.nf d2, .int .i64 S.deep, .int .i64 S.haul, .int .i64 S.rest] 25)).cell? ⟨w3.heap.size, o, none⟩ := fun o => (HD11.out.cell (p := ⟨w3.heap.size, o, none⟩) hlt5).trans (HCX.out o)
            obtain ⟨bc11, bf11⟩ := bcell HB11.out
            have hz11 := HB11.out.size
            simp only [World.size_alloc] at hz11
            have hy11 : w.heap.size < w11.heap.size := by omega
            have hx11 : w.heap.size + 1 < w11.heap.size := by omega
            clear hb11 bc10 bf10 hz10 hy10 hx10 HB10 HD10 cx10 hu10
            go_wp2_with fail
            refine wp_region_held 9 [.const (.agg #[.slice Ar S.nr cr, .slice Af S.nf cf, .int .i64 S.deep, .int .i64 S.haul, .int .i64 S.rest]), .const (.slice A m c), .held (copyS m) (copyR 0 m (intL g m)), .const (.tuple #[.int .i64 x2, .int .i64 e2]), .const (.tuple #[.int .i64 x2, .int .i64 e2]), .const (.int .i64 x2), .const (.int .i64 e2), .const (.int .i64 x2), .const (.int .i64 e2)] (by kernel_rfl) (by kernel_rfl) rfl ⟨trivial, trivial, copyG _ _ _, trivial, trivial, trivial, trivial, trivial, trivial, trivial⟩ ?_
            refine wpHeld_const (by go_simp) ?_
            refine wpHeld_const (by go_simp) ?_
            refine wpHeld_held rfl (fun w' hb hd => ?_) (fun v hv => ?_)
            · go_simp
              refine (copied_any _ _ _ g _ (by omega) ((HG.out.mono HB11.out).mono hb)).mono ?_
              rintro e w'' ⟨⟨A', c', rfl, h1, h2⟩, hb'⟩
              exact ⟨_, rfl, hb', ⟨_, _, rfl⟩, _, _, rfl, intsAt_row.1 h1, h2.base (Nat.zero_le _)⟩
            obtain ⟨Ad, cd, rfl⟩ := hv
            refine wpHeld_call rfl (fun w' hb hd => ?_) ?_
            · have hrow := intsAt_row.2 (copyR_get (hd.1 (by kernel_rfl))).1
              clear hd
              go_simp
              refine (Falls_at HFO1.out _ _ _ _ _ hr hf ((HS.out.mono HB11.out).mono hb) _ _ hm hrow).mono ?_
              rintro e w'' ⟨he, hb'⟩
              exact ⟨he, hb'⟩
            refine wpHeld_const (by go_simp) ?_
            refine wpHeld_const (by go_simp) ?_
            refine wpHeld_const (by go_simp) ?_
            refine wpHeld_const (by go_simp) ?_
            refine wpHeld_const (by go_simp) ?_
            refine wpHeld_end (fun w12 hb12 hd => ?_)
            clear hd
            simp only [List.drop_succ_cons, List.drop_zero]
            simp only [Act.put, List.setIfInBounds_toArray, List.set_cons_succ, List.set_cons_zero]
            have HD12 := Lib.hid (bTrans HD11.out hb12)
            have HB12 := Lib.hid (bTrans HB5.out HD12.out)
            have hu12 : w3.heap.size < w12.heap.size := Nat.lt_of_lt_of_le hlt5 HD12.out.size
            have cx12 : ∀ o, w12.cell? ⟨w3.heap.size, o, none⟩ = (w3.alloc (.cells #[.slice (some ⟨b, 0, none⟩) S.nr c2, .slice F2 S.nf d2, .int .i64 S.deep, .int .i64 S.haul, .int .i64 S.rest] 25)).cell? ⟨w3.heap.size, o, none⟩ := fun o => (HD12.out.cell (p := ⟨w3.heap.size, o, none⟩) hlt5).trans (HCX.out o)
            obtain ⟨bc12, bf12⟩ := bcell HB12.out
            have hz12 := HB12.out.size
            simp only [World.size_alloc] at hz12
            have hy12 : w.heap.size < w12.heap.size := by omega
            have hx12 : w.heap.size + 1 < w12.heap.size := by omega
            clear hb12 bc11 bf11 hz11 hy11 hx11 HB11 HD11 cx11 hu11
            go_wp2_with fail
            refine wp_region_held 9 [.const (.agg #[.slice (some ⟨b, 0, none⟩) S.nr c2, .slice F2 S.nf d2, .int .i64 S.deep, .int .i64 S.haul, .int .i64 S.rest]), .const (.slice A m c), .held (copyS m) (copyR 0 m (intL g m)), .const (.tuple #[.int .i64 y2, .int .i64 f2]), .const (.tuple #[.int .i64 y2, .int .i64 f2]), .const (.int .i64 y2), .const (.int .i64 f2), .const (.int .i64 y2), .const (.int .i64 f2)] (by kernel_rfl) (by kernel_rfl) rfl ⟨trivial, trivial, copyG _ _ _, trivial, trivial, trivial, trivial, trivial, trivial, trivial⟩ ?_
            refine wpHeld_const (by go_simp) ?_
            refine wpHeld_const (by go_simp) ?_
            refine wpHeld_held rfl (fun w' hb hd => ?_) (fun v hv => ?_)
            · go_simp
              refine (copied_any _ _ _ g _ (by omega) ((HG.out.mono HB12.out).mono hb)).mono ?_
              rintro e w'' ⟨⟨A', c', rfl, h1, h2⟩, hb'⟩
              exact ⟨_, rfl, hb', ⟨_, _, rfl⟩, _, _, rfl, intsAt_row.1 h1, h2.base (Nat.zero_le _)⟩
            obtain ⟨Ad, cd, rfl⟩ := hv
            refine wpHeld_call rfl (fun w' hb hd => ?_) ?_
            · have hrow := intsAt_row.2 (copyR_get (hd.1 (by kernel_rfl))).1
              clear hd
              go_simp
              refine (Falls_at HFO2.out _ _ _ _ _ hr hf ((HT.out.mono HD12.out).mono hb) _ _ hm hrow).mono ?_
              rintro e w'' ⟨he, hb'⟩
              exact ⟨he, hb'⟩
            refine wpHeld_const (by go_simp) ?_
            refine wpHeld_const (by go_simp) ?_
            refine wpHeld_const (by go_simp) ?_
            refine wpHeld_const (by go_simp) ?_
            refine wpHeld_const (by go_simp) ?_
            refine wpHeld_end (fun w13 hb13 hd => ?_)
            clear hd
            simp only [List.drop_succ_cons, List.drop_zero]
            simp only [Act.put, List.setIfInBounds_toArray, List.set_cons_succ, List.set_cons_zero]
            have HD13 := Lib.hid (bTrans HD12.out hb13)
            have HB13 := Lib.hid (bTrans HB5.out HD13.out)
            have hu13 : w3.heap.size < w13.heap.size := Nat.lt_of_lt_of_le hlt5 HD13.out.size
            have cx13 : ∀ o, w13.cell? ⟨w3.heap.size, o, none⟩ = (w3.alloc (.cells #[.slice (some ⟨b, 0, none⟩) S.nr c2, .slice F2 S.nf d2, .int .i64 S.deep, .int .i64 S.haul, .int .i64 S.rest] 25)).cell? ⟨w3.heap.size, o, none⟩ := fun o => (HD13.out.cell (p := ⟨w3.heap.size, o, none⟩) hlt5).trans (HCX.out o)
            obtain ⟨bc13, bf13⟩ := bcell HB13.out
            have hz13 := HB13.out.size
            simp only [World.size_alloc] at hz13
            have hy13 : w.heap.size < w13.heap.size := by omega
            have hx13 : w.heap.size + 1 < w13.heap.size := by omega
            clear hb13 bc12 bf12 hz12 hy12 hx12 HB12 HD12 cx12 hu12
            rcases hef with ⟨rfl, rfl⟩ | ⟨rfl, rfl⟩ | ⟨rfl, rfl, hle2⟩
            all_goals
              go_wp2_with (go_at_call 43; refine (isKnown_any _ _).mono ?_; rintro e w14 ⟨rfl, rfl⟩)
              refine (works_any _ (HN.out.mono HB13.out)).mono ?_
              rintro e w14 ⟨rfl, hb14⟩
              go_wp2_with fail
              go_ret
              exact ⟨rfl, bTrans HB.out (bTrans HB13.out hb14)⟩
  · have hcase : ¬ S.Ok ∨ (S.Ok ∧ inR x 0 ((S.nr : Int) - 1) = false) ∨ (S.Ok ∧ inR x 0 ((S.nr : Int) - 1) = true ∧ inR t 0 12 = false) ∨ (S.Ok ∧ inR x 0 ((S.nr : Int) - 1) = true ∧ inR t 0 12 = true ∧ ((40 : Int) < (m : Int)) = True) := by
      by_cases ok : S.Ok
      · cases e : inR x 0 ((S.nr : Int) - 1)
        · exact .inr (.inl ⟨ok, rfl⟩)
        · cases e2 : inR t 0 12
          · exact .inr (.inr (.inl ⟨ok, rfl, rfl⟩))
          · by_cases h40 : 40 < m
            · exact .inr (.inr (.inr ⟨ok, rfl, rfl, by simp; omega⟩))
            · exact absurd ⟨ok, e, e2, h40⟩ hgo
      · exact .inl ok
    clear hgo
    rcases hcase with hno | ⟨ok, h1⟩ | ⟨ok, h1, h2⟩ | ⟨ok, h1, h2, h3⟩
    · go_enter Tryd.func11, Tryd.ntmps11
      go_wp2_with fail
      refine (ready_any _ _ _ _ S _ hr hf HS.out).mono ?_
      rintro e w1 ⟨bt, rfl, hbb, hb1⟩
      obtain rfl : bt = false := by
        cases bt
        · rfl
        · exact absurd (hbb.1 rfl) hno
      clear hbb
      go_wp2_with fail
      refine (works_any _ (HN.out.mono hb1)).mono ?_
      rintro e w2 ⟨rfl, hb2⟩
      go_wp2_with fail
      go_ret
      exact ⟨rfl, bTrans HB.out (bTrans hb1 hb2)⟩
    all_goals
      go_enter Tryd.func11, Tryd.ntmps11
      go_wp2_with fail
      refine (ready_any _ _ _ _ S _ hr hf HS.out).mono ?_
      rintro e w1 ⟨bt, rfl, hbb, hb1⟩
      obtain rfl : bt = true := hbb.2 ok
      have HB1 := Lib.hid hb1
      obtain ⟨bc1, bf1⟩ := bcell hb1
      have hz1 := hb1.size
      simp only [World.size_alloc] at hz1
      have hy1 : w.heap.size < w1.heap.size := by omega
      have hx1 : w.heap.size + 1 < w1.heap.size := by omega
      clear hb1 hbb
      go_wp2_with fail
      refine (isRock_any _ _ _ _ S _ _ hr).mono ?_
      rintro e w2 ⟨rfl, hb2⟩
      have HB2 := Lib.hid (bTrans HB1.out hb2)
      obtain ⟨bc2, bf2⟩ := bcell HB2.out
      have hz2 := HB2.out.size
      simp only [World.size_alloc] at hz2
      have hy2 : w.heap.size < w2.heap.size := by omega
      have hx2 : w.heap.size + 1 < w2.heap.size := by omega
      clear hb2 bc1 bf1 hz1 hy1 hx1 HB1
      go_wp2_with (go_at_call 32; refine (Within01_any _ _ _ _).mono ?_; rintro e w2' ⟨rfl, rfl⟩)
      refine (works_any _ (HN.out.mono HB2.out)).mono ?_
      rintro e w3 ⟨rfl, hb3⟩
      go_wp2_with fail
      go_ret
      exact ⟨rfl, bTrans HB.out (bTrans HB2.out hb3)⟩
end Go.Proofs.YtbbnpneabmldnaaDoor
