/- The plain law of levels: bounds that words leave, closed; that each truth keeps to them; that more words leave less. No program in sight. -/
import Derived.Test.YtdboicnlkbnbnaaDoorTools
namespace Go.Proofs.YtdboicnlkbnbnaaDoor
open Go.RowKit Go.Sort
structure Snd where
  (well low high : Int)
structure Slp where
  (a b low high : Int)
/-- a town of wells, as data -/
structure Lt where
  wells : Int
  ns : Nat
  snd : Nat → Snd
  nl : Nat
  slp : Nat → Slp
def Snd.bad (n : Int) (s : Snd) : Bool := !inR s.well 0 (n - 1) || !inR s.low 0 s.high || decide (99 < s.high)
def Slp.bad (n : Int) (s : Slp) : Bool := !inR s.a 0 (n - 1) || !inR s.b 0 (n - 1) || s.a == s.b || !inR s.low (-99) s.high || decide (99 < s.high)
structure Snd.Ok (n : Int) (s : Snd) : Prop where
  w0 : 0 ≤ s.well
  w1 : s.well < n
  l0 : 0 ≤ s.low
  l1 : s.low ≤ s.high
  h1 : s.high ≤ 99
structure Slp.Ok (n : Int) (s : Slp) : Prop where
  a0 : 0 ≤ s.a
  a1 : s.a < n
  b0 : 0 ≤ s.b
  b1 : s.b < n
  ne : s.a ≠ s.b
  l0 : -99 ≤ s.low
  l1 : s.low ≤ s.high
  h1 : s.high ≤ 99
structure Lt.Ok (t : Lt) : Prop where
  w0 : 0 ≤ t.wells
  w1 : t.wells ≤ 6
  ns : t.ns ≤ 8
  nl : t.nl ≤ 8
  snd : ∀ i, i < t.ns → (t.snd i).Ok t.wells
  slp : ∀ i, i < t.nl → (t.slp i).Ok t.wells
theorem Snd.bad_iff {n : Int} {s : Snd} : s.bad n = false ↔ s.Ok n := by
  unfold Snd.bad
  simp only [Bool.or_eq_false_iff, Bool.not_eq_false', inR_iff, decide_eq_false_iff_not]
  exact ⟨fun ⟨⟨⟨a, b⟩, ⟨c, d⟩⟩, e⟩ => ⟨a, by omega, c, d, by omega⟩, fun h => ⟨⟨⟨h.w0, by have := h.w1; omega⟩, ⟨h.l0, h.l1⟩⟩, by have := h.h1; omega⟩⟩
theorem Slp.bad_iff {n : Int} {s : Slp} : s.bad n = false ↔ s.Ok n := by
  unfold Slp.bad
  simp only [Bool.or_eq_false_iff, Bool.not_eq_false', inR_iff, decide_eq_false_iff_not, beq_eq_false_iff_ne]
  exact ⟨fun ⟨⟨⟨⟨⟨a, b⟩, ⟨c, d⟩⟩, e⟩, ⟨f, g⟩⟩, h⟩ => ⟨a, by omega, c, by omega, e, f, g, by omega⟩, fun h => ⟨⟨⟨⟨⟨h.a0, by have := h.a1; omega⟩, ⟨h.b0, by have := h.b1; omega⟩⟩, h.ne⟩, ⟨h.l0, h.l1⟩⟩, by have := h.h1; omega⟩⟩
/-! ### Bounds -/
abbrev Bd := Nat → Nat → Int
def leave (b : Bd) (p q : Nat) (m : Int) : Bd := fun i j => if i = p ∧ j = q then min (b p q) m else b i j
def LeB (b c : Bd) : Prop := ∀ i j, b i j ≤ c i j
theorem LeB.refl (b : Bd) : LeB b b := fun _ _ => Int.le_refl _
theorem LeB.trans {b c d : Bd} (h : LeB b c) (k : LeB c d) : LeB b d := fun i j => Int.le_trans (h i j) (k i j)
theorem leave_le (b : Bd) (p q : Nat) (m : Int) : LeB (leave b p q m) b := fun i j => by
  unfold leave
  by_cases h : i = p ∧ j = q
  · rw [if_pos h, h.1, h.2]; exact Int.min_le_left _ _
  · rw [if_neg h]; exact Int.le_refl _
theorem leave_at (b : Bd) (p q : Nat) (m : Int) : leave b p q m p q ≤ m := by
  unfold leave
  rw [if_pos ⟨rfl, rfl⟩]
  exact Int.min_le_right _ _
theorem leave_mono {b c : Bd} (h : LeB b c) (p q : Nat) {m n : Int} (hm : m ≤ n) : LeB (leave b p q m) (leave c p q n) := fun i j => by
  unfold leave
  by_cases hij : i = p ∧ j = q
  · rw [if_pos hij, if_pos hij]
    have := h p q
    omega
  · rw [if_neg hij, if_neg hij]; exact h i j
/-- levels keep to bounds -/
def Keeps (l : Nat → Int) (b : Bd) : Prop := ∀ i j, l j - l i ≤ b i j
theorem leave_keeps {l : Nat → Int} {b : Bd} (h : Keeps l b) {p q : Nat} {m : Int} (hm : l q - l p ≤ m) : Keeps l (leave b p q m) := fun i j => by
  unfold leave
  by_cases hij : i = p ∧ j = q
  · rw [if_pos hij, hij.1, hij.2]
    have := h p q
    omega
  · rw [if_neg hij]; exact h i j
def free : Int := 1048576
/-- bounds that each level leaves by itself -/
def bare : Bd := fun i k => if i = k then 0 else free
def rockB : Nat → Bd
  | 0 => bare
  | w + 1 => leave (leave (rockB w) 6 w 99) w 6 0
def soundB (b : Bd) (s : Snd) : Bd := leave (leave b 6 s.well.toNat s.high) s.well.toNat 6 (-s.low)
def slopeB (b : Bd) (s : Slp) : Bd := leave (leave b s.a.toNat s.b.toNat s.high) s.b.toNat s.a.toNat (-s.low)
def soundsB (b : Bd) (f : Nat → Snd) : Nat → Bd
  | 0 => b
  | n + 1 => soundB (soundsB b f n) (f n)
def slopesB (b : Bd) (f : Nat → Slp) : Nat → Bd
  | 0 => b
  | n + 1 => slopeB (slopesB b f n) (f n)
def Lt.open_ (t : Lt) : Bd := slopesB (soundsB (rockB t.wells.toNat) t.snd t.ns) t.slp t.nl
/-- one step of closing -/
def viaB (k i j : Nat) (b : Bd) : Bd := if b i k < free ∧ b k j < free then leave b i j (b i k + b k j) else b
def viaJ (k i : Nat) : Nat → Bd → Bd
  | 0, b => b
  | n + 1, b => viaB k i n (viaJ k i n b)
def viaI (k : Nat) : Nat → Bd → Bd
  | 0, b => b
  | n + 1, b => viaJ k n 7 (viaI k n b)
def viaK : Nat → Bd → Bd
  | 0, b => b
  | n + 1, b => viaI n 7 (viaK n b)
def Lt.shut (t : Lt) : Bd := viaK 7 t.open_
theorem soundB_le (b : Bd) (s : Snd) : LeB (soundB b s) b := (leave_le _ _ _ _).trans (leave_le _ _ _ _)
theorem slopeB_le (b : Bd) (s : Slp) : LeB (slopeB b s) b := (leave_le _ _ _ _).trans (leave_le _ _ _ _)
theorem soundsB_le (b : Bd) (f : Nat → Snd) : ∀ n, LeB (soundsB b f n) b
  | 0 => LeB.refl _
  | n + 1 => (soundB_le _ _).trans (soundsB_le b f n)
theorem slopesB_le (b : Bd) (f : Nat → Slp) : ∀ n, LeB (slopesB b f n) b
  | 0 => LeB.refl _
  | n + 1 => (slopeB_le _ _).trans (slopesB_le b f n)
theorem viaB_le (k i j : Nat) (b : Bd) : LeB (viaB k i j b) b := by
  unfold viaB
  split
  · exact leave_le _ _ _ _
  · exact LeB.refl _
theorem viaJ_le (k i : Nat) (b : Bd) : ∀ n, LeB (viaJ k i n b) b
  | 0 => LeB.refl _
  | n + 1 => (viaB_le _ _ _ _).trans (viaJ_le k i b n)
theorem viaI_le (k : Nat) (b : Bd) : ∀ n, LeB (viaI k n b) b
  | 0 => LeB.refl _
  | n + 1 => (viaJ_le _ _ _ _).trans (viaI_le k b n)
theorem viaK_le (b : Bd) : ∀ n, LeB (viaK n b) b
  | 0 => LeB.refl _
  | n + 1 => (viaI_le _ _ _).trans (viaK_le b n)
theorem viaB_mono (k i j : Nat) {b c : Bd} (h : LeB b c) : LeB (viaB k i j b) (viaB k i j c) := by
  by_cases hc : c i k < free ∧ c k j < free
  · have h1 := h i k
    have h2 := h k j
    have hb : b i k < free ∧ b k j < free := ⟨by omega, by omega⟩
    unfold viaB
    rw [if_pos hc, if_pos hb]
    exact leave_mono h _ _ (by omega)
  · refine (viaB_le k i j b).trans ?_
    unfold viaB
    rw [if_neg hc]
    exact h
theorem viaJ_mono (k i : Nat) {b c : Bd} (h : LeB b c) : ∀ n, LeB (viaJ k i n b) (viaJ k i n c)
  | 0 => h
  | n + 1 => viaB_mono _ _ _ (viaJ_mono k i h n)
theorem viaI_mono (k : Nat) {b c : Bd} (h : LeB b c) : ∀ n, LeB (viaI k n b) (viaI k n c)
  | 0 => h
  | n + 1 => viaJ_mono _ _ (viaI_mono k h n) 7
theorem viaK_mono {b c : Bd} (h : LeB b c) : ∀ n, LeB (viaK n b) (viaK n c)
  | 0 => h
  | n + 1 => viaI_mono _ (viaK_mono h n) 7
section
variable {l : Nat → Int}
theorem viaB_keeps (k i j : Nat) {b : Bd} (h : Keeps l b) : Keeps l (viaB k i j b) := by
  unfold viaB
  split
  · exact leave_keeps h (by have h1 := h i k; have h2 := h k j; omega)
  · exact h
theorem viaJ_keeps (k i : Nat) {b : Bd} (h : Keeps l b) : ∀ n, Keeps l (viaJ k i n b)
  | 0 => h
  | n + 1 => viaB_keeps _ _ _ (viaJ_keeps k i h n)
theorem viaI_keeps (k : Nat) {b : Bd} (h : Keeps l b) : ∀ n, Keeps l (viaI k n b)
  | 0 => h
  | n + 1 => viaJ_keeps _ _ (viaI_keeps k h n) 7
theorem viaK_keeps {b : Bd} (h : Keeps l b) : ∀ n, Keeps l (viaK n b)
  | 0 => h
  | n + 1 => viaI_keeps _ (viaK_keeps h n) 7
end
/-- a truth: a level for each well -/
structure Lt.Truth (t : Lt) (l : Nat → Int) : Prop where
  lo : ∀ i : Nat, (i : Int) < t.wells → 0 ≤ l i
  hi : ∀ i : Nat, (i : Int) < t.wells → l i ≤ 99
  snd : ∀ i, i < t.ns → (t.snd i).low ≤ l (t.snd i).well.toNat ∧ l (t.snd i).well.toNat ≤ (t.snd i).high
  slp : ∀ i, i < t.nl → (t.slp i).low ≤ l (t.slp i).b.toNat - l (t.slp i).a.toNat ∧ l (t.slp i).b.toNat - l (t.slp i).a.toNat ≤ (t.slp i).high
/-- the levels, and 0 for the ground and all that is no well -/
def onGround (n : Int) (l : Nat → Int) : Nat → Int := fun i => if (i : Int) < n then l i else 0
theorem ground_well {t : Lt} {l : Nat → Int} {n : Int} (h0 : 0 ≤ n) (h1 : n < t.wells) : onGround t.wells l n.toNat = l n.toNat := if_pos (by omega)
theorem ground_six {t : Lt} (l : Nat → Int) (ok : t.Ok) : onGround t.wells l 6 = 0 := by
  unfold onGround
  rw [if_neg (by have := ok.w1; omega)]
theorem ground_bd {t : Lt} {l : Nat → Int} (h : t.Truth l) (i : Nat) : 0 ≤ onGround t.wells l i ∧ onGround t.wells l i ≤ 99 := by
  unfold onGround
  split
  · exact ⟨h.lo i (by assumption), h.hi i (by assumption)⟩
  · omega
section
variable {t : Lt} {l : Nat → Int} (ok : t.Ok) (h : t.Truth l)
include ok h
theorem rock_keeps : ∀ w : Nat, (w : Int) ≤ t.wells → Keeps (onGround t.wells l) (rockB w)
  | 0, _ => fun i j => by
    have h1 := ground_bd h i
    have h2 := ground_bd h j
    show _ ≤ if i = j then (0 : Int) else free
    split
    · rename_i e; rw [e]; omega
    · unfold free; omega
  | w + 1, hw => by
    have h1 := ground_bd h w
    have h6 := ground_six l ok
    exact leave_keeps (leave_keeps (rock_keeps w (by omega)) (by rw [h6]; omega)) (by rw [h6]; omega)
theorem sounds_keeps : ∀ n, n ≤ t.ns → Keeps (onGround t.wells l) (soundsB (rockB t.wells.toNat) t.snd n)
  | 0, _ => rock_keeps ok h _ (by have := ok.w0; omega)
  | n + 1, hn => by
    have ih := sounds_keeps n (by omega)
    have h1 := h.snd n (by omega)
    have h2 := ok.snd n (by omega)
    have h6 := ground_six l ok
    have hw := ground_well (l := l) h2.w0 h2.w1
    exact leave_keeps (leave_keeps ih (by rw [h6, hw]; omega)) (by rw [h6, hw]; omega)
theorem slopes_keeps : ∀ n, n ≤ t.nl → Keeps (onGround t.wells l) (slopesB (soundsB (rockB t.wells.toNat) t.snd t.ns) t.slp n)
  | 0, _ => sounds_keeps ok h _ (Nat.le_refl _)
  | n + 1, hn => by
    have ih := slopes_keeps n (by omega)
    have h1 := h.slp n (by omega)
    have h2 := ok.slp n (by omega)
    have ha := ground_well (l := l) h2.a0 h2.a1
    have hb := ground_well (l := l) h2.b0 h2.b1
    exact leave_keeps (leave_keeps ih (by rw [ha, hb]; omega)) (by rw [ha, hb]; omega)
theorem shut_keeps : Keeps (onGround t.wells l) t.shut := viaK_keeps (slopes_keeps ok h _ (Nat.le_refl _)) 7
end
/-- with one sounding more -/
def Lt.sounded (t : Lt) (s : Snd) : Lt := ⟨t.wells, t.ns + 1, fun i => if i = t.ns then s else t.snd i, t.nl, t.slp⟩
theorem sounds_congr {b : Bd} {f g : Nat → Snd} : ∀ n, (∀ i, i < n → f i = g i) → soundsB b f n = soundsB b g n
  | 0, _ => rfl
  | n + 1, h => by
    simp only [soundsB]
    rw [sounds_congr n (fun i hi => h i (by omega)), h n (by omega)]
theorem slopes_mono {b c : Bd} (h : LeB b c) (f : Nat → Slp) : ∀ n, LeB (slopesB b f n) (slopesB c f n)
  | 0 => h
  | n + 1 => leave_mono (leave_mono (slopes_mono h f n) _ _ (Int.le_refl _)) _ _ (Int.le_refl _)
theorem sounded_le (t : Lt) (s : Snd) : LeB (t.sounded s).shut t.shut := by
  refine viaK_mono (slopes_mono ?_ t.slp t.nl) 7
  show LeB (soundB (soundsB (rockB t.wells.toNat) (fun i => if i = t.ns then s else t.snd i) t.ns) _) _
  rw [sounds_congr (g := t.snd) t.ns (fun i hi => if_neg (by omega))]
  exact soundB_le _ _
theorem rock_le : ∀ (n w : Nat), w < n → rockB n 6 w ≤ 99 ∧ rockB n w 6 ≤ 0
  | 0, w, h => by omega
  | n + 1, w, h => by
    rcases Nat.lt_or_ge w n with h1 | h1
    · have ih := rock_le n w h1
      have h2 : LeB (rockB (n + 1)) (rockB n) := (leave_le _ _ _ _).trans (leave_le _ _ _ _)
      exact ⟨Int.le_trans (h2 6 w) ih.1, Int.le_trans (h2 w 6) ih.2⟩
    · obtain rfl : w = n := by omega
      refine ⟨Int.le_trans ((leave_le (leave (rockB w) 6 w 99) w 6 0) 6 w) (leave_at _ _ _ _), leave_at _ _ _ _⟩
def Lt.low (t : Lt) (w : Nat) : Int := -(t.shut w 6)
def Lt.high (t : Lt) (w : Nat) : Int := t.shut 6 w
theorem shut_le (t : Lt) {w : Nat} (h : (w : Int) < t.wells) : 0 ≤ t.low w ∧ t.high w ≤ 99 := by
  have h1 := rock_le t.wells.toNat w (by omega)
  have h2 : LeB t.shut (rockB t.wells.toNat) := (viaK_le _ 7).trans ((slopesB_le _ _ _).trans (soundsB_le _ _ _))
  have h3 := h2 6 w
  have h4 := h2 w 6
  unfold Lt.low Lt.high
  omega
theorem level_truth {t : Lt} {l : Nat → Int} (ok : t.Ok) (h : t.Truth l) {w : Nat} (hw : (w : Int) < t.wells) : t.low w ≤ l w ∧ l w ≤ t.high w := by
  have h1 := shut_keeps ok h 6 w
  have h2 := shut_keeps ok h w 6
  have h6 := ground_six l ok
  have hg : onGround t.wells l w = l w := if_pos hw
  rw [h6, hg] at h1 h2
  unfold Lt.low Lt.high
  omega
theorem level_more (t : Lt) (s : Snd) (w : Nat) : t.low w ≤ (t.sounded s).low w ∧ (t.sounded s).high w ≤ t.high w := by
  have h1 := sounded_le t s w 6
  have h2 := sounded_le t s 6 w
  unfold Lt.low Lt.high
  omega
/-! ### Spans -/
abbrev Sp := Nat → Int × Int
def cutS (a b : Int × Int) : Int × Int := (max a.1 b.1, min a.2 b.2)
def setS (l : Sp) (w : Nat) (v : Int × Int) : Sp := fun i => if i = w then v else l i
theorem setS_at (l : Sp) (w : Nat) (v : Int × Int) : setS l w v w = v := if_pos rfl
theorem setS_ne (l : Sp) {w i : Nat} (v : Int × Int) (h : i ≠ w) : setS l w v i = l i := if_neg h
def stepB (s : Slp) (l : Sp) : Int × Int := cutS (l s.b.toNat) ((l s.a.toNat).1 + s.low, (l s.a.toNat).2 + s.high)
def stepA (s : Slp) (l : Sp) : Int × Int := cutS (l s.a.toNat) ((l s.b.toNat).1 - s.high, (l s.b.toNat).2 - s.low)
/-- the spans behind a slope -/
def stepS (s : Slp) (l : Sp) : Sp := setS (setS l s.b.toNat (stepB s l)) s.a.toNat (stepA s l)
/-- whether a slope changes anything -/
def turnS (s : Slp) (l : Sp) : Bool := decide (stepA s l ≠ l s.a.toNat) || decide (stepB s l ≠ l s.b.toNat)
/-- all is within what it was -/
def Nar (k l : Sp) : Prop := ∀ w, (l w).1 ≤ (k w).1 ∧ (k w).2 ≤ (l w).2
theorem Nar.refl (l : Sp) : Nar l l := fun _ => ⟨Int.le_refl _, Int.le_refl _⟩
theorem Nar.trans {j k l : Sp} (h : Nar j k) (h' : Nar k l) : Nar j l := fun w => ⟨Int.le_trans (h' w).1 (h w).1, Int.le_trans (h w).2 (h' w).2⟩
theorem cut_nar (a b : Int × Int) : a.1 ≤ (cutS a b).1 ∧ (cutS a b).2 ≤ a.2 := ⟨Int.le_max_left _ _, Int.min_le_left _ _⟩
theorem setS_nar {l : Sp} {w : Nat} {v : Int × Int} (h : (l w).1 ≤ v.1 ∧ v.2 ≤ (l w).2) : Nar (setS l w v) l := fun i => by
  by_cases e : i = w
  · rw [e, setS_at]; exact h
  · rw [setS_ne _ _ e]; exact ⟨Int.le_refl _, Int.le_refl _⟩
theorem stepS_nar {s : Slp} {l : Sp} (hne : s.a.toNat ≠ s.b.toNat) : Nar (stepS s l) l := by
  refine Nar.trans (setS_nar ?_) (setS_nar (cut_nar _ _))
  rw [setS_ne _ _ hne]
  exact cut_nar _ _
def widthS (l : Sp) : Nat → Int
  | 0 => 0
  | n + 1 => widthS l n + ((l n).2 - (l n).1)
theorem widthS_le {k l : Sp} (h : Nar k l) : ∀ n, widthS k n ≤ widthS l n
  | 0 => Int.le_refl _
  | n + 1 => by have := widthS_le h n; have := h n; simp only [widthS]; omega
theorem widthS_lt {k l : Sp} (h : Nar k l) {w : Nat} (hw : k w ≠ l w) : ∀ n, w < n → widthS k n < widthS l n
  | 0, h0 => by omega
  | n + 1, h0 => by
    have h1 := h n
    simp only [widthS]
    rcases Nat.lt_or_ge w n with h2 | h2
    · have := widthS_lt h hw n h2; omega
    · obtain rfl : w = n := by omega
      have := widthS_le h w
      have : ¬ ((k w).1 = (l w).1 ∧ (k w).2 = (l w).2) := fun e => hw (Prod.ext e.1 e.2)
      omega
theorem widthS_nonneg {l : Sp} : ∀ n, (∀ w, w < n → (l w).1 ≤ (l w).2) → 0 ≤ widthS l n
  | 0, _ => Int.le_refl _
  | n + 1, h => by have := widthS_nonneg n (fun w hw => h w (by omega)); have := h n (by omega); simp only [widthS]; omega
theorem stepS_a {s : Slp} {l : Sp} : stepS s l s.a.toNat = stepA s l := setS_at _ _ _
theorem stepS_b {s : Slp} {l : Sp} (hne : s.a.toNat ≠ s.b.toNat) : stepS s l s.b.toNat = stepB s l := by
  unfold stepS
  rw [setS_ne _ _ (Ne.symm hne), setS_at]
theorem stepS_turn {s : Slp} {l : Sp} (hne : s.a.toNat ≠ s.b.toNat) {n : Nat} (ha : s.a.toNat < n) (hb : s.b.toNat < n) (ht : turnS s l = true) : widthS (stepS s l) n < widthS l n := by
  unfold turnS at ht
  rcases Bool.or_eq_true_iff.1 ht with h | h
  · exact widthS_lt (stepS_nar hne) (by rw [stepS_a]; exact of_decide_eq_true h) n ha
  · exact widthS_lt (stepS_nar hne) (by rw [stepS_b hne]; exact of_decide_eq_true h) n hb
theorem stepS_same {s : Slp} {l : Sp} (ht : turnS s l = false) : stepS s l = l ∧ (l s.a.toNat).1 + s.low ≤ (l s.b.toNat).1 ∧ (l s.b.toNat).1 - s.high ≤ (l s.a.toNat).1 := by
  unfold turnS at ht
  obtain ⟨h1, h2⟩ := Bool.or_eq_false_iff.1 ht
  have e1 : stepA s l = l s.a.toNat := Classical.not_not.1 (of_decide_eq_false h1)
  have e2 : stepB s l = l s.b.toNat := Classical.not_not.1 (of_decide_eq_false h2)
  refine ⟨funext fun i => ?_, ?_, ?_⟩
  · unfold stepS
    rw [e1, e2]
    by_cases ha : i = s.a.toNat
    · rw [ha, setS_at]
    · rw [setS_ne _ _ ha]
      by_cases hb : i = s.b.toNat
      · rw [hb, setS_at]
      · rw [setS_ne _ _ hb]
  · have := congrArg Prod.fst e2
    simp only [stepB, cutS] at this
    omega
  · have := congrArg Prod.fst e1
    simp only [stepA, cutS] at this
    omega
/-- what the spans keep to -/
structure Lt.Holds (t : Lt) (l : Sp) : Prop where
  lo : ∀ w : Nat, (w : Int) < t.wells → 0 ≤ (l w).1
  hi : ∀ w : Nat, (w : Int) < t.wells → (l w).2 ≤ 99
  snd : ∀ i, i < t.ns → (t.snd i).low ≤ (l (t.snd i).well.toNat).1 ∧ (l (t.snd i).well.toNat).2 ≤ (t.snd i).high
theorem Lt.Holds.nar {t : Lt} {k l : Sp} (h : t.Holds l) (hn : Nar k l) : t.Holds k :=
  ⟨fun w hw => Int.le_trans (h.lo w hw) (hn w).1, fun w hw => Int.le_trans (hn w).2 (h.hi w hw), fun i hi => ⟨Int.le_trans (h.snd i hi).1 (hn _).1, Int.le_trans (hn _).2 (h.snd i hi).2⟩⟩
/-- spans that no slope changes any more, none of them empty: the least numbers are a truth -/
theorem spans_truth {t : Lt} {l : Sp} (ok : t.Ok) (h : t.Holds l) (hle : ∀ w : Nat, (w : Int) < t.wells → (l w).1 ≤ (l w).2) (hst : ∀ i, i < t.nl → turnS (t.slp i) l = false) : t.Truth (fun w => (l w).1) := by
  refine ⟨h.lo, fun w hw => Int.le_trans (hle w hw) (h.hi w hw), fun i hi => ?_, fun i hi => ?_⟩
  · have h1 := h.snd i hi
    have h2 := ok.snd i hi
    have h3 := hle (t.snd i).well.toNat (by have := h2.w0; have := h2.w1; omega)
    exact ⟨h1.1, by show (l _).1 ≤ _; omega⟩
  · obtain ⟨_, h1, h2⟩ := stepS_same (hst i hi)
    exact ⟨by show _ ≤ (l _).1 - (l _).1; omega, by show (l _).1 - (l _).1 ≤ _; omega⟩
end Go.Proofs.YtdboicnlkbnbnaaDoor
