/- Parts joined: what all claims of this seat need. -/
import Derived.WalkKit
import Derived.WalkSpells
import Derived.WalkLawsBesides
import Derived.BigQuiet
import Derived.Lib.Hide
import Derived.Lib.QuietBelow
import Derived.Deep.RegionHeld3
import Derived.OwnWalk
import Derived.Laws.AppendOwn
import Derived.Laws.OwnMore
import Derived.Laws.IdiomCopy
import Derived.Deep.RegionLaw
import Derived.Lib.SliceRun
import Derived.ArgAppend
import Derived.RegionTactic
import Derived.Laws.MakeOwn
import Derived.Test.YtifkjnmnflhnoaaGreatDoorProg
set_option linter.unusedSimpArgs false
set_option linter.unusedVariables false
namespace Go.Proofs.YtifkjnmnflhnoaaGreatDoor
open Go.RowKit Go.Sort
/-! ### Worlds -/
theorem cell_grow {w : World} {n : Nat} (h : n < w.heap.size) (i d : Nat) (os : Array Obj) : (grow (redrawn w d) os).cell? ⟨n, i, none⟩ = w.cell? ⟨n, i, none⟩ :=
  (below_regrown w d os).cell (p := ⟨n, i, none⟩) h
theorem frozen_grow {w : World} {n : Nat} (h : n < w.heap.size) (i d : Nat) (os : Array Obj) : (grow (redrawn w d) os).frozen? ⟨n, i, none⟩ = w.frozen? ⟨n, i, none⟩ :=
  (below_regrown w d os).frozen (p := ⟨n, i, none⟩) h
attribute [go_sem] cell_grow frozen_grow Instr.field asAgg
theorem below_of_regrown {w w' : World} (h : ∃ p : Regrown, w' = grow (redrawn w p.d) p.os) : Below w.heap.size w w' := by
  obtain ⟨p, rfl⟩ := h; exact below_regrown w p.d p.os
theorem bcell {W w1 : World} (hb : Below W.heap.size W w1) : (∀ b o, b < W.heap.size → w1.cell? ⟨b, o, none⟩ = W.cell? ⟨b, o, none⟩) ∧ (∀ b o, b < W.heap.size → w1.frozen? ⟨b, o, none⟩ = W.frozen? ⟨b, o, none⟩) :=
  ⟨fun b o h => hb.cell (p := ⟨b, o, none⟩) h, fun b o h => hb.frozen (p := ⟨b, o, none⟩) h⟩
section
variable {w x y : World}
theorem bAlloc (h : Below w.heap.size w x) (o : Obj) : Below w.heap.size w (x.alloc o) := h.alloc h.size o
theorem bDrew (h : Below w.heap.size w x) : Below w.heap.size w x.drew := h.drew
theorem bGrow (h : Below w.heap.size w x) (d : Nat) (os : Array Obj) : Below w.heap.size w (grow (redrawn x d) os) := h.trans ((below_regrown x d os).mono h.size)
theorem bTrans (h : Below w.heap.size w x) (k : Below x.heap.size x y) : Below w.heap.size w y := h.trans (k.mono h.size)
theorem bSet {p : Addr} (hp : w.heap.size ≤ p.block) (h : Below w.heap.size w x) (u : Value) : Below w.heap.size w (x.setCell p u) := h.setCell hp u
end
/-! ### Endings -/
theorem ret_bool {a b : Bool} (h : a = b) : Ending.returned (.bool a) = .returned (.bool b) := by rw [h]
/-! ### Plain notions -/
def inR (n lo hi : Int) : Bool := decide (lo ≤ n) && decide (n ≤ hi)
theorem inR_iff {n lo hi : Int} : inR n lo hi = true ↔ lo ≤ n ∧ n ≤ hi := by simp [inR]
theorem inR_t {n lo hi : Int} (h : lo ≤ n ∧ n ≤ hi) : inR n lo hi = true := inR_iff.2 h
theorem inR_f {n lo hi : Int} (h : ¬ (lo ≤ n ∧ n ≤ hi)) : inR n lo hi = false := by
  cases e : inR n lo hi
  · rfl
  · exact absurd (inR_iff.1 e) h
def anyB (p : Nat → Bool) : Nat → Bool
  | 0 => false
  | n + 1 => anyB p n || p n
theorem anyB_false {p : Nat → Bool} {n : Nat} : anyB p n = false ↔ ∀ i, i < n → p i = false := by
  induction n with
  | zero => simp [anyB]
  | succ n ih =>
    simp only [anyB, Bool.or_eq_false_iff, ih]
    exact ⟨fun h i hi => by
      rcases Nat.lt_or_ge i n with h1 | h1
      · exact h.1 i h1
      · obtain rfl : i = n := by omega
        exact h.2, fun h => ⟨fun i hi => h i (by omega), h n (by omega)⟩⟩
theorem anyB_true {p : Nat → Bool} {n : Nat} : anyB p n = true ↔ ∃ i, i < n ∧ p i = true := by
  induction n with
  | zero => simp [anyB]
  | succ n ih =>
    simp only [anyB, Bool.or_eq_true, ih]
    constructor
    · rintro (⟨i, h1, h2⟩ | h)
      · exact ⟨i, by omega, h2⟩
      · exact ⟨n, by omega, h⟩
    · rintro ⟨i, h1, h2⟩
      rcases Nat.lt_or_ge i n with h3 | h3
      · exact .inl ⟨i, h3, h2⟩
      · obtain rfl : i = n := by omega
        exact .inr h2
theorem anyB_hit {p : Nat → Bool} {n k : Nat} (h : k < n) (hk : p k = true) : anyB p n = true := anyB_true.2 ⟨k, h, hk⟩
theorem anyB_step {p : Nat → Bool} {k : Nat} (h : anyB p k = false) (hk : p k = false) : anyB p (k + 1) = false := by simp [anyB, h, hk]
theorem anyB_congr {p q : Nat → Bool} {n : Nat} (h : ∀ i, i < n → p i = q i) : anyB p n = anyB q n := by
  induction n with
  | zero => rfl
  | succ n ih => simp only [anyB, ih (fun i hi => h i (by omega)), h n (by omega)]
/-! ### How slices read -/
def IntsAt (w : World) (A : Option Addr) (n : Nat) (f : Nat → Int) : Prop :=
  n = 0 ∨ ∃ b o, A = some ⟨b, o, none⟩ ∧ b < w.heap.size ∧ ∀ i, i < n → w.cell? ⟨b, o + i, none⟩ = some (.int .i64 (f i))
theorem IntsAt.mono {w w' : World} {A : Option Addr} {n : Nat} {f : Nat → Int} (h : IntsAt w A n f) (hb : Below w.heap.size w w') : IntsAt w' A n f := by
  rcases h with h | ⟨b, o, rfl, hlt, hc⟩
  · exact .inl h
  · exact .inr ⟨b, o, rfl, Nat.lt_of_lt_of_le hlt hb.size, fun i hi => (hb.cell (p := ⟨b, o + i, none⟩) hlt).trans (hc i hi)⟩
theorem IntsAt.get {w : World} {A : Option Addr} {n : Nat} {f : Nat → Int} (h : IntsAt w A n f) {i : Nat} (hi : i < n) :
    ∃ b o, A = some ⟨b, o, none⟩ ∧ b < w.heap.size ∧ w.cell? ⟨b, o + i, none⟩ = some (.int .i64 (f i)) := by
  rcases h with h | ⟨b, o, rfl, hlt, hc⟩
  · omega
  · exact ⟨b, o, rfl, hlt, hc i hi⟩
theorem Within01_any (n lo hi : Int) (w : World) :
    Calls Tryz.prog 9 #[.int .i64 n, .int .i64 lo, .int .i64 hi] w fun e w' => e = .returned (.bool (inR n lo hi)) ∧ w = w' := by
  go_enter Tryz.func9, Tryz.ntmps9
  by_cases h1 : lo ≤ n <;> by_cases h2 : n ≤ hi
  all_goals
    go_wp2
    go_ret
    first
      | exact ⟨ret_bool (inR_t (by omega)).symm, rfl⟩
      | exact ⟨ret_bool (inR_f (by omega)).symm, rfl⟩
section
variable {P : Program} {ops : Array Oper} {md : Region.Mode}

def waits (md : Region.Mode) (ops : Array Oper) (j i : Nat) : Bool :=
  match ops[j]? with
  | some o => o.after.any fun e => Region.binds md e && e.on == i
  | none => false
theorem waits_listed {listed : Array Bool} {i j : Nat} (hr : j ∈ Region.ready md ops listed) (h : waits md ops j i = true) : listed.getD i false = true := by
  obtain ⟨_, o, ho, hall⟩ := mem_ready.1 hr
  simp only [waits, ho] at h
  obtain ⟨e, he, hb⟩ := Array.any_eq_true'.1 h
  simp only [Bool.and_eq_true, beq_iff_eq] at hb
  rw [← hb.2]
  exact hall e he hb.1
/-- what has come up has all that it waits for behind it -/
structure Shut (md : Region.Mode) (ops : Array Oper) (listed : Array Bool) : Prop where
  size : listed.size = ops.size
  shut : ∀ j i, listed.getD j false = true → waits md ops j i = true → listed.getD i false = true
theorem listed_both {listed : Array Bool} {i : Nat} (h : listed.getD i true = false) : listed.getD i false = false := by
  rcases Nat.lt_or_ge i listed.size with h' | h'
  · simp [h'] at h ⊢; exact h
  · simp [Array.getElem?_eq_none h'] at h
theorem set_same {listed : Array Bool} {i : Nat} (h : i < listed.size) (d : Bool) : (listed.setIfInBounds i true).getD i d = true := by simp [h]
theorem lt_of_unlisted {listed : Array Bool} {i : Nat} (h : listed.getD i true = false) : i < listed.size := by
  rcases Nat.lt_or_ge i listed.size with h' | h'
  · exact h'
  · simp [Array.getElem?_eq_none h'] at h
theorem Shut.set {listed : Array Bool} {i : Nat} (h : Shut md ops listed) (hr : i ∈ Region.ready md ops listed) : Shut md ops (listed.setIfInBounds i true) := by
  refine ⟨by simp [h.size], fun j k hj hw => ?_⟩
  by_cases hij : i = j
  · subst hij; exact getD_set_true (waits_listed hr hw)
  · rw [getD_set_ne false hij] at hj; exact getD_set_true (h.shut j k hj hw)
theorem Shut.none : Shut md ops (Array.replicate ops.size false) :=
  ⟨by simp, fun j i hj _ => by
    rcases Nat.lt_or_ge j ops.size with h | h
    · simp [h] at hj
    · simp [h] at hj⟩
/-- how many have not come up yet -/
def left (listed : Array Bool) : Nat → Nat
  | 0 => 0
  | k + 1 => left listed k + (if listed.getD k true then 0 else 1)
theorem left_set_low {listed : Array Bool} {i : Nat} : ∀ k, k ≤ i → left (listed.setIfInBounds i true) k = left listed k
  | 0, _ => rfl
  | k + 1, h => by simp only [left]; rw [left_set_low k (by omega), getD_set_ne true (by omega)]
theorem left_set {listed : Array Bool} {i : Nat} (hi : listed.getD i true = false) : ∀ k, i < k → left (listed.setIfInBounds i true) k + 1 = left listed k
  | 0, h => by omega
  | k + 1, h => by
    simp only [left]
    by_cases e : i = k
    · subst e
      rw [left_set_low i (Nat.le_refl _), set_same (lt_of_unlisted hi), hi]; rfl
    · rw [getD_set_ne true e]; have := left_set hi k (by omega); omega
theorem left_le (listed : Array Bool) : ∀ k, left listed k ≤ k
  | 0 => Nat.le_refl 0
  | k + 1 => by simp only [left]; have := left_le listed k; split <;> omega
theorem left_pos {listed : Array Bool} {i : Nat} (hi : listed.getD i true = false) : ∀ k, i < k → 0 < left listed k := fun k hk => by have := left_set hi k hk; omega

theorem wpAny_inv {Q : Exit → Act → World → Prop} (Inv : Array Bool → Act → World → Prop)
    (hstep : ∀ listed a w i, Shut md ops listed → Inv listed a w → i ∈ Region.ready md ops listed → wpOp P ops Q i (Inv (listed.setIfInBounds i true)) a w)
    (hend : ∀ listed a w, Shut md ops listed → Inv listed a w → Region.ready md ops listed = [] → Q .normal a w) :
    ∀ (fuel : Nat) (listed : Array Bool) (a : Act) (w : World), left listed ops.size ≤ fuel → Shut md ops listed → Inv listed a w → wpAny P md ops Q fuel listed a w
  | 0, listed, a, w, hl, hs, hI => by
    have hr : Region.ready md ops listed = [] := by
      cases hr : Region.ready md ops listed with
      | nil => rfl
      | cons i rest =>
        have hm : i ∈ Region.ready md ops listed := by rw [hr]; exact List.mem_cons_self
        have h0 := (mem_ready.1 hm).1
        have := left_pos h0 ops.size (by rw [← hs.size]; exact lt_of_unlisted h0)
        omega
    exact ⟨hr, hend _ _ _ hs hI hr⟩
  | fuel + 1, listed, a, w, hl, hs, hI => by
    refine ⟨fun hr => hend _ _ _ hs hI hr, fun i hi => ?_⟩
    have h0 := (mem_ready.1 hi).1
    have h1 := left_set h0 ops.size (by rw [← hs.size]; exact lt_of_unlisted h0)
    exact wpOp_mono (fun a' w' h' => wpAny_inv Inv hstep hend fuel _ a' w' (by omega) (hs.set hi) h') (hstep _ _ _ _ hs hI hi)

/-! ### The frame behind some of the operations -/
def dstOf (ops : Array Oper) (k : Nat) : Option Tmp := (ops[k]?).bind (·.dst)
def frameOf (ops : Array Oper) (V : Nat → Value) (L : Nat → Bool) (a : Act) : Nat → Act
  | 0 => a
  | k + 1 => if L k then (frameOf ops V L a k).put (dstOf ops k) (V k) else frameOf ops V L a k
theorem put_size (a : Act) (d : Option Tmp) (v : Value) : (a.put d v).tmps.size = a.tmps.size := by cases d <;> simp [Act.put]
theorem frameOf_size (V : Nat → Value) (L : Nat → Bool) (a : Act) : ∀ k, (frameOf ops V L a k).tmps.size = a.tmps.size
  | 0 => rfl
  | k + 1 => by unfold frameOf; split <;> simp [put_size, frameOf_size V L a k]
theorem put_ne {a : Act} {d : Option Tmp} {t : Tmp} (h : d ≠ some t) (v : Value) : (a.put d v).tmps[t]? = a.tmps[t]? := by
  cases d with
  | none => rfl
  | some d => simp only [Act.put]; rw [Array.getElem?_setIfInBounds_ne (fun e => h (by rw [e]))]
theorem put_eq {a b : Act} {t : Tmp} (hs : a.tmps.size = b.tmps.size) (v : Value) : (a.put (some t) v).tmps[t]? = (b.put (some t) v).tmps[t]? := by
  simp only [Act.put, Array.getElem?_setIfInBounds, hs, if_true]
/-- a slot reads the same behind two choices, if whoever writes it stands in both, and no later one -/
theorem frameOf_slot {V V' : Nat → Value} {L M : Nat → Bool} {a : Act} {t : Tmp} {i : Nat}
    (hlow : ∀ k, k < i → dstOf ops k = some t → L k = true ∧ M k = true ∧ V k = V' k) : ∀ k, k ≤ i → (frameOf ops V L a k).tmps[t]? = (frameOf ops V' M a k).tmps[t]?
  | 0, _ => rfl
  | k + 1, h => by
    have ih := frameOf_slot (a := a) hlow k (by omega)
    unfold frameOf
    by_cases hd : dstOf ops k = some t
    · obtain ⟨h1, h2, h3⟩ := hlow k (by omega) hd
      rw [if_pos h1, if_pos h2, hd, h3]
      exact put_eq (by simp [frameOf_size]) _
    · by_cases h1 : L k = true <;> by_cases h2 : M k = true <;> simp only [h1, h2, if_true, if_false, Bool.false_eq_true, put_ne hd] <;> exact ih
theorem frameOf_slot_up {V : Nat → Value} {L : Nat → Bool} {a : Act} {t : Tmp} {i : Nat} (hup : ∀ k, i ≤ k → L k = true → dstOf ops k ≠ some t) : ∀ k, i ≤ k → (frameOf ops V L a k).tmps[t]? = (frameOf ops V L a i).tmps[t]?
  | 0, h => by obtain rfl : i = 0 := by omega
               rfl
  | k + 1, h => by
    rcases Nat.eq_or_lt_of_le h with e | e
    · rw [e]
    · rw [show frameOf ops V L a (k + 1) = if L k then (frameOf ops V L a k).put (dstOf ops k) (V k) else frameOf ops V L a k from rfl]
      by_cases h1 : L k = true
      · rw [if_pos h1, put_ne (hup k (by omega) h1)]; exact frameOf_slot_up (V := V) (a := a) hup k (by omega)
      · rw [if_neg h1]; exact frameOf_slot_up (V := V) (a := a) hup k (by omega)
theorem frameOf_congr {V V' : Nat → Value} {L M : Nat → Bool} {a : Act} : ∀ k, (∀ j, j < k → L j = M j ∧ (L j = true → V j = V' j)) → frameOf ops V L a k = frameOf ops V' M a k
  | 0, _ => rfl
  | k + 1, h => by
    obtain ⟨h1, h2⟩ := h k (by omega)
    have ih := frameOf_congr (a := a) k (fun j hj => h j (by omega))
    unfold frameOf
    rw [ih, ← h1]
    split
    · rename_i h3; rw [h2 h3]
    · rfl
/-- one more has come up -/
theorem frameOf_put {V : Nat → Value} {L M : Nat → Bool} {a : Act} {i n : Nat} (hi : i < n) (hL : L i = false) (hM : M i = true) (hLM : ∀ k, k ≠ i → M k = L k) (hd : ∀ k d, i < k → L k = true → dstOf ops i = some d → dstOf ops k ≠ some d) :
    frameOf ops V M a n = (frameOf ops V L a n).put (dstOf ops i) (V i) := by
  have low : frameOf ops V M a i = frameOf ops V L a i := frameOf_congr i (fun j hj => ⟨hLM j (by omega), fun _ => rfl⟩)
  have key : ∀ k, i + 1 ≤ k → k ≤ n → frameOf ops V M a k = (frameOf ops V L a k).put (dstOf ops i) (V i) := by
    intro k
    induction k with
    | zero => intro h; omega
    | succ k ih =>
      intro h1 h2
      rcases Nat.eq_or_lt_of_le h1 with e | e
      · obtain rfl : i = k := by omega
        rw [frameOf, if_pos hM, low, frameOf, if_neg (by simp [hL])]
      · have := ih (by omega) (by omega)
        rw [frameOf, frameOf, hLM k (by omega), this]
        split
        · rename_i h3
          exact Act.put_comm _ _ _ (fun d hdd => hd k d (by omega) h3 hdd)
        · rfl
  exact key n (by omega) (Nat.le_refl n)

/-! ### Operations that are calm: one value in every world that is the first one with new blocks; what they leave is that with new blocks -/
/-- w' is w with new blocks (a plain name: the walk's simp does not look behind it) -/
def Newer (w w' : World) : Prop := Below w.heap.size w w'
def Oper.calmUpon (P : Program) (w : World) (v : Value) : Result Next → Prop
  | .ok (.value u) w' => w' = w ∧ u = v
  | .ok .skip w' => w' = w ∧ v = undef
  | .ok (.enter f args) w' => w' = w ∧ Calls P f args w (fun e w'' => e = .returned v ∧ Newer w w'')
  | _ => False
def Oper.calmAt (P : Program) (o : Oper) (a : Act) (w : World) (v : Value) : Prop := Oper.calmUpon P w v ((execOp a.eval o).run P w)
def Oper.calm (P : Program) (o : Oper) (a : Act) (W : World) (next : Act → Prop) : Prop := ∃ v, (∀ p : Regrown, Oper.calmAt P o a (grow (redrawn W p.d) p.os) v) ∧ next (a.put o.dst v)
attribute [go_sem] Oper.calm Oper.calmAt Oper.calmUpon
theorem Oper.wp_of_calm {o : Oper} {a : Act} {w : World} {v : Value} {K : Act → World → Prop} {Q : Exit → Act → World → Prop} (h : Oper.calmAt P o a w v) (hK : ∀ w', Below w.heap.size w w' → K (a.put o.dst v) w') : o.wp P a w K Q := by
  unfold Oper.calmAt at h
  unfold Oper.wp
  generalize (execOp a.eval o).run P w = r at *
  cases r with
  | ok n w' =>
    cases n <;> simp only [Oper.calmUpon] at h <;> simp only [Oper.upon]
    case value u =>
      obtain ⟨e1, e2⟩ := h
      rw [e1, e2]
      exact hK _ (Below.refl _ _)
    case skip =>
      obtain ⟨e1, e2⟩ := h
      rw [e1, ← e2]
      exact hK _ (Below.refl _ _)
    case enter f args =>
      obtain ⟨e1, hc⟩ := h
      rw [e1]
      exact hc.mono fun e w'' ⟨he, hw''⟩ => by subst he; exact hK _ hw''
  | halt x w' => simp only [Oper.calmUpon] at h
/-- the walk in the order of the text; the operations for which 'sk' holds are passed over -/

def wpCalm (P : Program) (ops : Array Oper) (W : World) (sk : Nat → Bool) (Q : Act → Prop) : Nat → List Oper → Act → Prop
  | _, [], a => Q a
  | k, o :: rest, a => if sk k then wpCalm P ops W sk Q (k + 1) rest a
    else if Region.wanted o (yielded ops a.tmps) then Oper.calm P o a W (wpCalm P ops W sk Q (k + 1) rest) else wpCalm P ops W sk Q (k + 1) rest (a.put o.dst undef)
theorem wpCalm_nil {W : World} {sk : Nat → Bool} {Q : Act → Prop} {k : Nat} {a : Act} (h : Q a) : wpCalm P ops W sk Q k [] a := h
theorem wpCalm_step {W : World} {sk : Nat → Bool} {Q : Act → Prop} {k : Nat} {o : Oper} {rest : List Oper} {a : Act} (hs : sk k = false)
    (h : ∀ K : Act → Prop, (∀ a, wpCalm P ops W sk Q (k + 1) rest a → K a) → if Region.wanted o (yielded ops a.tmps) then Oper.calm P o a W K else K (a.put o.dst undef)) : wpCalm P ops W sk Q k (o :: rest) a := by
  unfold wpCalm
  rw [hs]
  exact h _ (fun _ h => h)
theorem wpCalm_skip {W : World} {sk : Nat → Bool} {Q : Act → Prop} {k : Nat} {o : Oper} {rest : List Oper} {a : Act} (hs : sk k = true) (h : wpCalm P ops W sk Q (k + 1) rest a) : wpCalm P ops W sk Q k (o :: rest) a := by
  unfold wpCalm
  rw [hs]
  exact h
/-- what is known of operation k in the state a -/
def CalmAt (P : Program) (ops : Array Oper) (W : World) (o : Oper) (a : Act) (v : Value) : Prop :=
  (Region.wanted o (yielded ops a.tmps) = true ∧ ∀ w, Below W.heap.size W w → Oper.calmAt P o a w v) ∨ (Region.wanted o (yielded ops a.tmps) = false ∧ v = undef)
theorem wpCalm_values {W : World} {sk : Nat → Bool} {Q : Act → Prop} (a0 : Act) : ∀ (l : List Oper) (k : Nat) (V0 : Nat → Value), (∀ j, l[j]? = ops[k + j]?) → wpCalm P ops W sk Q k l (frameOf ops V0 (fun j => !sk j) a0 k) →
    ∃ V : Nat → Value, (∀ j, j < k → V j = V0 j) ∧ (∀ j o, k ≤ j → j < k + l.length → ops[j]? = some o → sk j = false → CalmAt P ops W o (frameOf ops V (fun j => !sk j) a0 j) (V j)) ∧ Q (frameOf ops V (fun j => !sk j) a0 (k + l.length))
  | [], k, V0, _, h => ⟨V0, fun _ _ => rfl, fun j o h1 h2 => by simp at h2; omega, by simpa [wpCalm] using h⟩
  | o :: l, k, V0, hl, h => by
    have h0 : ops[k]? = some o := by simpa using (hl 0).symm
    have hl' : ∀ j, l[j]? = ops[k + 1 + j]? := fun j => by have := hl (j + 1); simpa [Nat.add_assoc, Nat.add_comm 1 j] using this
    have go : ∀ v : Value, (sk k = false → CalmAt P ops W o (frameOf ops V0 (fun j => !sk j) a0 k) v) → wpCalm P ops W sk Q (k + 1) l (if sk k then frameOf ops V0 (fun j => !sk j) a0 k else (frameOf ops V0 (fun j => !sk j) a0 k).put o.dst v) →
        ∃ V : Nat → Value, (∀ j, j < k → V j = V0 j) ∧ (∀ j o', k ≤ j → j < k + (o :: l).length → ops[j]? = some o' → sk j = false → CalmAt P ops W o' (frameOf ops V (fun j => !sk j) a0 j) (V j)) ∧ Q (frameOf ops V (fun j => !sk j) a0 (k + (o :: l).length)) := by
      intro v hc hw
      let V1 : Nat → Value := fun j => if j = k then v else V0 j
      have e1 : frameOf ops V1 (fun j => !sk j) a0 k = frameOf ops V0 (fun j => !sk j) a0 k := frameOf_congr k (fun j hj => ⟨rfl, fun _ => by simp only [V1]; rw [if_neg (by omega)]⟩)
      have e2 : frameOf ops V1 (fun j => !sk j) a0 (k + 1) = if sk k then frameOf ops V0 (fun j => !sk j) a0 k else (frameOf ops V0 (fun j => !sk j) a0 k).put o.dst v := by
        rw [frameOf, e1]
        have e3 : dstOf ops k = o.dst := by simp [dstOf, h0]
        cases sk k <;> simp [V1, e3]
      obtain ⟨V, hV, hall, hQ⟩ := wpCalm_values a0 l (k + 1) V1 hl' (by rw [e2]; exact hw)
      have e4 : frameOf ops V (fun j => !sk j) a0 k = frameOf ops V0 (fun j => !sk j) a0 k := (frameOf_congr k (fun j hj => ⟨rfl, fun _ => hV j (by omega)⟩)).trans e1
      refine ⟨V, fun j hj => by rw [hV j (by omega)]; simp only [V1]; rw [if_neg (by omega)], fun j o' h1 h2 h3 h4 => ?_, by rw [List.length_cons, show k + (l.length + 1) = k + 1 + l.length from by omega]; exact hQ⟩
      rcases Nat.eq_or_lt_of_le h1 with e | e
      · subst e
        obtain rfl : o = o' := Option.some.inj (h0.symm.trans h3)
        rw [e4, hV k (by omega)]
        simp only [V1, if_true]
        exact hc h4
      · exact hall j o' e (by simp only [List.length_cons] at h2; omega) h3 h4
    unfold wpCalm at h
    by_cases hs : sk k = true
    · rw [if_pos hs] at h
      exact go undef (fun h' => by rw [hs] at h'; cases h') (by rw [if_pos hs]; exact h)
    · rw [if_neg hs] at h
      by_cases hw : Region.wanted o (yielded ops (frameOf ops V0 (fun j => !sk j) a0 k).tmps) = true
      · rw [if_pos hw] at h
        obtain ⟨v, hv, hn⟩ := h
        refine go v (fun _ => .inl ⟨hw, fun w hb => ?_⟩) (by rw [if_neg hs]; exact hn)
        obtain ⟨p, rfl⟩ := regrown_of_below hb
        exact hv p
      · rw [if_neg hw] at h
        exact go undef (fun _ => .inr ⟨by simpa using hw, rfl⟩) (by rw [if_neg hs]; exact h)

/-! ### Whoever looks at a slot, and whoever writes it, wait for each other -/
def looksB (ops : Array Oper) (i : Nat) (t : Tmp) : Bool := match ops[i]? with | some o => (o.looksAt ops).contains t | none => false
/-- of two operations, neither passed over, of which one looks at what the other one writes, or both write one slot, the later one waits for the earlier one; all wait for earlier ones alone -/
def orderedB (md : Region.Mode) (ops : Array Oper) : Bool :=
  Region.noSelect ops && (List.range ops.size).all fun j =>
    (match ops[j]? with | some o => o.after.all fun e => !Region.binds md e || decide (e.on < j) | none => true) &&
    (List.range j).all fun i => waits md ops j i || ((match dstOf ops i with | some d => !looksB ops j d && !(dstOf ops j == some d) | none => true) && (match dstOf ops j with | some d => !looksB ops i d | none => true))
structure Ordered (md : Region.Mode) (ops : Array Oper) : Prop where
  sel : Region.noSelect ops = true
  back : ∀ j o e, ops[j]? = some o → e ∈ o.after → Region.binds md e = true → e.on < j
  apart : ∀ i j, i < j → j < ops.size → waits md ops j i = true ∨ ((∀ d, dstOf ops i = some d → looksB ops j d = false ∧ dstOf ops j ≠ some d) ∧ (∀ d, dstOf ops j = some d → looksB ops i d = false))
theorem ordered_of {md : Region.Mode} {ops : Array Oper} (h : orderedB md ops = true) : Ordered md ops := by
  unfold orderedB at h
  simp only [Bool.and_eq_true, List.all_eq_true, List.mem_range] at h
  refine ⟨h.1, fun j o e ho he hb => ?_, fun i j hij hj => ?_⟩
  · have h1 := (h.2 j (Array.getElem?_eq_some_iff.1 ho).1).1
    simp only [ho] at h1
    have h2 := Array.all_eq_true'.1 h1 e he
    simpa [hb] using h2
  · have h1 := (h.2 j hj).2 i hij
    simp only [Bool.or_eq_true, Bool.and_eq_true] at h1
    rcases h1 with h1 | ⟨h1, h2⟩
    · exact .inl h1
    · refine .inr ⟨fun d hd => ?_, fun d hd => ?_⟩
      · simp only [hd, Bool.and_eq_true, Bool.not_eq_true', beq_eq_false_iff_ne] at h1
        exact h1
      · simpa [hd] using h2
theorem looks_of {i : Nat} {o : Oper} {t : Tmp} (ho : ops[i]? = some o) (h : t ∈ o.looksAt ops) : looksB ops i t = true := by simp [looksB, ho, h]
/-- all have come up where none can come up any more -/
theorem Ordered.all (h : Ordered md ops) {listed : Array Bool} (hs : Shut md ops listed) (hr : Region.ready md ops listed = []) : ∀ j, j < ops.size → listed.getD j false = true := by
  intro j
  induction j using Nat.strongRecOn with
  | _ j ih =>
    intro hj
    cases hl : listed.getD j false with
    | true => rfl
    | false =>
      have hjs : j < listed.size := by rw [hs.size]; exact hj
      have hm : j ∈ Region.ready md ops listed := mem_ready.2 ⟨by simp [hjs] at hl ⊢; exact hl, ops[j], by simp [hj], fun e he hb => ih e.on (h.back j _ e (by simp [hj]) he hb) (by have := h.back j _ e (by simp [hj]) he hb; omega)⟩
      rw [hr] at hm; cases hm
/-- operation i, when it comes up, looks at the same slots as in the order of the text; M: those that are not passed over -/
theorem Ordered.sees (h : Ordered md ops) {V V' : Nat → Value} {M : Nat → Bool} {a : Act} {listed : Array Bool} (hs : Shut md ops listed) {i : Nat} {o : Oper} (ho : ops[i]? = some o) (hr : i ∈ Region.ready md ops listed)
    (hM : ∀ k, k < i → M k = false → ∀ d, dstOf ops k = some d → looksB ops i d = false) (hV : ∀ k, M k = true → V k = V' k) :
    ∀ t, t ∈ o.looksAt ops → (frameOf ops V (fun k => listed.getD k false) a ops.size).tmps[t]? = (frameOf ops V' M a i).tmps[t]? := by
  intro t ht
  have hi : i < ops.size := (Array.getElem?_eq_some_iff.1 ho).1
  have hun := listed_both (mem_ready.1 hr).1
  have hlk := looks_of ho ht
  rw [frameOf_slot_up (i := i) (fun k hk hl hd => ?_) ops.size (by omega), frameOf_slot (V' := V') (M := M) (i := i) (fun k hk hd => ?_) i (Nat.le_refl i)]
  · have hkn : k < ops.size := by omega
    have hMk : M k = true := by
      cases e : M k with
      | true => rfl
      | false => rw [hM k hk e t hd] at hlk; cases hlk
    refine ⟨?_, hMk, hV k hMk⟩
    rcases h.apart k i hk hi with hw | ⟨h1, _⟩
    · exact waits_listed hr hw
    · rw [(h1 t hd).1] at hlk; cases hlk
  · have hkn : k < ops.size := by
      simp only [dstOf] at hd
      rcases Nat.lt_or_ge k ops.size with h' | h'
      · exact h'
      · simp [Array.getElem?_eq_none h'] at hd
    have hne : i ≠ k := fun e => by subst e; rw [hun] at hl; cases hl
    rcases h.apart i k (by omega) hkn with hw | ⟨_, h2⟩
    · have := hs.shut k i hl hw; rw [hun] at this; cases this
    · rw [h2 t hd] at hlk; cases hlk
theorem eval_of_slots {a b : Act} {x : Operand} (h : ∀ t, x = .tmp t → a.tmps[t]? = b.tmps[t]?) : a.eval x = b.eval x := by
  cases x with
  | tmp t => simp [Act.eval, h t rfl]
  | _ => rfl
theorem exec_of_slots {o : Oper} (hsel : ∀ cs b, o.op ≠ .select cs b) {a b : Act} (h : ∀ t, t ∈ o.looksAt ops → a.tmps[t]? = b.tmps[t]?) : execOp a.eval o = execOp b.eval o :=
  execOp_congr o hsel fun x hx => eval_of_slots fun t ht => h t (by subst ht; exact List.mem_append_left _ (List.mem_filterMap.2 ⟨.tmp t, by simpa using hx, rfl⟩))
theorem wanted_of_slots {o : Oper} {a b : Act} (h : ∀ t, t ∈ o.looksAt ops → a.tmps[t]? = b.tmps[t]?) : Region.wanted o (yielded ops a.tmps) = Region.wanted o (yielded ops b.tmps) := by
  unfold Region.wanted
  cases hg : o.guard with
  | none => rfl
  | some gw =>
    obtain ⟨g, want⟩ := gw
    have : yielded ops a.tmps g = yielded ops b.tmps g := by
      unfold yielded
      cases ht : (ops[g]?).bind (·.dst) with
      | none => rfl
      | some t => simp [h t (by simp [Oper.looksAt, hg, ht])]
    simp only [this]
/-- one more has come up: the frame -/
theorem Ordered.frame_put (h : Ordered md ops) {V : Nat → Value} {a : Act} {listed : Array Bool} (hs : Shut md ops listed) {i : Nat} (hi : i < ops.size) (hun : listed.getD i true = false) :
    frameOf ops V (fun k => (listed.setIfInBounds i true).getD k false) a ops.size = (frameOf ops V (fun k => listed.getD k false) a ops.size).put (dstOf ops i) (V i) := by
  have hl := listed_both hun
  refine frameOf_put hi hl (set_same (by rw [hs.size]; exact hi) false) (fun k hk => getD_set_ne false (Ne.symm hk)) (fun k d hk hlk hd hdk => ?_)
  have hkn : k < ops.size := by
    simp only [dstOf] at hdk
    rcases Nat.lt_or_ge k ops.size with h' | h'
    · exact h'
    · simp [Array.getElem?_eq_none h'] at hdk
  rcases h.apart i k hk hkn with hw | ⟨h1, _⟩
  · have := hs.shut k i hlk hw; rw [hl] at this; cases this
  · exact (h1 d hd).2 hdk
theorem CalmAt.wpOp {W : World} {i : Nat} {o : Oper} {a b : Act} {w : World} {v : Value} {K : Act → World → Prop} {Q : Exit → Act → World → Prop} (ho : ops[i]? = some o) (hsel : ∀ cs b, o.op ≠ .select cs b) (h : CalmAt P ops W o b v) (hw : Below W.heap.size W w)
    (hl : ∀ t, t ∈ o.looksAt ops → a.tmps[t]? = b.tmps[t]?) (hK : ∀ w', Below w.heap.size w w' → K (a.put o.dst v) w') : wpOp P ops Q i K a w := by
  unfold Go.wpOp
  simp only [ho]
  rw [wanted_of_slots hl]
  rcases h with ⟨h1, h2⟩ | ⟨h1, rfl⟩
  · rw [if_pos h1]
    refine .inl (Oper.wp_of_calm ?_ hK)
    have := h2 w hw
    unfold Oper.calmAt at this ⊢
    rwa [exec_of_slots hsel hl]
  · rw [if_neg (by rw [h1]; exact Bool.false_ne_true)]
    exact hK _ (Below.refl _ _)

end
theorem below_grownBy {w w' : World} {base : Nat} {row : Option Nat} (h : w.grownBy w' row) (hb : base ≤ w.heap.size) (hr : ∀ k, row = some k → base ≤ k) : Below base w w' :=
  ⟨h.os, h.tape, h.output, h.size, fun k hk => h.block k (by omega) (fun e => by have := hr k e.symm; omega)⟩
theorem infoInt : (Tryz.prog.info? 3).map (fun i => (i.zero, i.size, i.bytes)) = some (some (.int .i64 0), 1, 8) := by kernel_rfl
def intL (g : Nat → Int) : Nat → List Value
  | 0 => []
  | n + 1 => intL g n ++ [.int .i64 (g n)]
theorem intL_len (g : Nat → Int) (n : Nat) : (intL g n).length = n := by
  induction n with
  | zero => rfl
  | succ n ih => simp [intL, ih]
theorem intL_get (g : Nat → Int) {n i : Nat} (h : i < n) : (intL g n)[i]? = some (.int .i64 (g i)) := by
  induction n with
  | zero => omega
  | succ n ih =>
    simp only [intL]
    rcases Nat.lt_or_ge i n with h1 | h1
    · rw [List.getElem?_append_left (by rw [intL_len]; exact h1)]; exact ih h1
    · obtain rfl : i = n := by omega
      rw [List.getElem?_append_right (by rw [intL_len]; exact Nat.le_refl _), intL_len]; simp
section
variable {P : Program} {ops : Array Oper} {md : Region.Mode}
def depsP (md : Region.Mode) (ops : Array Oper) (k : Nat) : List (Nat × (World → Prop)) → World → Prop
  | [], _ => True
  | (j, f) :: F, w => (waits md ops k j = true → f w) ∧ depsP md ops k F w
def allP : List (Nat × (World → Prop)) → World → Prop
  | [], _ => True
  | (_, f) :: F, w => f w ∧ allP F w
def Oper.heldUpon (P : Program) (w : World) (r : World → Value → Prop) : Result Next → Prop
  | .ok (.value u) w' => Newer w w' ∧ r w' u
  | .ok .skip w' => w' = w ∧ r w undef
  | .ok (.enter f args) w' => w' = w ∧ Calls P f args w (fun e w'' => ∃ v, e = .returned v ∧ Newer w w'' ∧ r w'' v)
  | _ => False
def Oper.heldAt (P : Program) (o : Oper) (a : Act) (w : World) (r : World → Value → Prop) : Prop := Oper.heldUpon P w r ((execOp a.eval o).run P w)
/-- i waits for j, through others too -/
def reach (md : Region.Mode) (ops : Array Oper) : Nat → Nat → Nat → Bool
  | 0, i, j => waits md ops i j
  | d + 1, i, j => waits md ops i j || (List.range i).any fun k => waits md ops i k && reach md ops d k j
theorem reach_listed {listed : Array Bool} (hs : Shut md ops listed) : ∀ d i j, (∀ k, waits md ops i k = true → listed.getD k false = true) → reach md ops d i j = true → listed.getD j false = true
  | 0, i, j, hi, h => hi j h
  | d + 1, i, j, hi, h => by
    unfold reach at h
    simp only [Bool.or_eq_true, List.any_eq_true, List.mem_range, Bool.and_eq_true] at h
    rcases h with h | ⟨k, _, h1, h2⟩
    · exact hi j h
    · exact reach_listed hs d k j (fun m hm => hs.shut k m (hi k h1) hm) h2
theorem newer_refl (w : World) : Newer w w = True := eq_true (Below.refl _ _)
attribute [go_sem] Oper.heldAt Oper.heldUpon newer_refl depsP
end
theorem below_grown {w w' : World} (h : w.grownBy w' none) : Below w.heap.size w w' := below_grownBy h (Nat.le_refl _) (fun k hk => by cases hk)
def RowAt (w : World) (A : Option Addr) (L : List Value) : Prop := L = [] ∨ ∃ b o, A = some ⟨b, o, none⟩ ∧ b < w.heap.size ∧ ∀ j v, L[j]? = some v → w.cell? ⟨b, o + j, none⟩ = some v
theorem RowAt.mono {w w' : World} {A : Option Addr} {L : List Value} (h : RowAt w A L) (hb : Below w.heap.size w w') : RowAt w' A L := by
  rcases h with h | ⟨b, o, rfl, hlt, hc⟩
  · exact .inl h
  · exact .inr ⟨b, o, rfl, Nat.lt_of_lt_of_le hlt hb.size, fun j v hj => (hb.cell (p := ⟨b, o + j, none⟩) hlt).trans (hc j v hj)⟩
theorem intsAt_row {w : World} {A : Option Addr} {n : Nat} {g : Nat → Int} : IntsAt w A n g ↔ RowAt w A (intL g n) := by
  constructor
  · rintro (rfl | ⟨b, o, rfl, hlt, hc⟩)
    · exact .inl rfl
    · refine .inr ⟨b, o, rfl, hlt, fun j v hj => ?_⟩
      have hjn : j < n := by
        have := (List.getElem?_eq_some_iff.1 hj).1
        rwa [intL_len] at this
      rw [intL_get g hjn] at hj
      injection hj with hj
      subst hj
      exact hc j hjn
  · rintro (h | ⟨b, o, rfl, hlt, hc⟩)
    · left
      have := congrArg List.length h
      rwa [intL_len] at this
    · exact .inr ⟨b, o, rfl, hlt, fun i hi => hc i _ (intL_get g hi)⟩
section
variable {m : Nat} {g : Nat → Int} {x d n : Nat} {h : Nat → Int}
end
section
variable {P : Program} {ops : Array Oper} {md : Region.Mode}
/-- what is said of an operation's value: it is this one; or: its shape, and what it reads as from then on -/
inductive Stir where
  | const (c : Value)
  | held (s : Value → Prop) (r : World → Value → Prop)
  | stir (s : Value → Prop) (r : World → Value → Prop) (K : World → World → Prop)
def Stir.sh : Stir → Value → Prop
  | .const c => fun v => v = c
  | .held s _ => s
  | .stir s _ _ => s
def Stir.r : Stir → World → Value → Prop
  | .const c => fun _ v => v = c
  | .held s r => fun w v => s v ∧ r w v
  | .stir s r _ => fun w v => s v ∧ r w v
def Stir.K : Stir → World → World → Prop
  | .const _ => Newer
  | .held _ _ => Newer
  | .stir _ _ K => K
def Stir.note (k : Nat) (v : Value) (F : List (Nat × (World → Prop))) : Stir → List (Nat × (World → Prop))
  | .const _ => F
  | .held _ r => (k, fun w => r w v) :: F
  | .stir _ r _ => (k, fun w => r w v) :: F
def Stir.good : Stir → Prop
  | .const _ => True
  | .held s r => (∃ v, s v) ∧ ∀ w w' v, Below w.heap.size w w' → r w v → r w' v
  | .stir s r _ => (∃ v, s v) ∧ ∀ w w' v, Below w.heap.size w w' → r w v → r w' v
def goodAllS : List Stir → Prop
  | [] => True
  | h :: hs => h.good ∧ goodAllS hs
theorem Stir.r_sh {h : Stir} {w : World} {v : Value} (H : h.r w v) : h.sh v := by
  cases h with
  | const c => exact H
  | held s r => exact H.1
  | stir s r K => exact H.1
theorem Stir.r_mono {h : Stir} (hg : h.good) {w w' : World} {v : Value} (hb : Below w.heap.size w w') (H : h.r w v) : h.r w' v := by
  cases h with
  | const c => exact H
  | held s r => exact ⟨H.1, hg.2 _ _ _ hb H.2⟩
  | stir s r K => exact ⟨H.1, hg.2 _ _ _ hb H.2⟩
theorem Stir.some {h : Stir} (hg : h.good) : ∃ v, h.sh v := by
  cases h with
  | const c => exact ⟨c, rfl⟩
  | held s r => exact hg.1
  | stir s r K => exact hg.1
theorem goodAllS_at : ∀ {hs : List Stir} {k : Nat} {h : Stir}, goodAllS hs → hs[k]? = some h → h.good
  | [], k, h, _, hk => by simp at hk
  | h0 :: hs, 0, h, hg, hk => by simp at hk; subst hk; exact hg.1
  | h0 :: hs, k + 1, h, hg, hk => goodAllS_at hg.2 (by simpa using hk)
def Oper.stirUpon (P : Program) (w : World) (K : World → World → Prop) (r : World → Value → Prop) : Result Next → Prop
  | .ok (.value u) w' => K w w' ∧ r w' u
  | .ok .skip w' => w' = w ∧ K w w ∧ r w undef
  | .ok (.enter f args) w' => w' = w ∧ Calls P f args w (fun e w'' => ∃ v, e = .returned v ∧ K w w'' ∧ r w'' v)
  | _ => False
def Oper.stirAt (P : Program) (o : Oper) (a : Act) (w : World) (K : World → World → Prop) (r : World → Value → Prop) : Prop := Oper.stirUpon P w K r ((execOp a.eval o).run P w)
theorem Oper.wp_of_stir {o : Oper} {a : Act} {w : World} {S : World → World → Prop} {r : World → Value → Prop} {K : Act → World → Prop} {Q : Exit → Act → World → Prop} (h : Oper.stirAt P o a w S r) (hK : ∀ v w', S w w' → r w' v → K (a.put o.dst v) w') : o.wp P a w K Q := by
  unfold Oper.stirAt at h
  unfold Oper.wp
  generalize (execOp a.eval o).run P w = x at *
  cases x with
  | ok n w' =>
    cases n <;> simp only [Oper.stirUpon] at h <;> simp only [Oper.upon]
    case value u => exact hK _ _ h.1 h.2
    case skip =>
      obtain ⟨e1, e3, e2⟩ := h
      rw [e1]
      exact hK _ _ e3 e2
    case enter f args =>
      obtain ⟨e1, hc⟩ := h
      rw [e1]
      exact hc.mono fun e w'' ⟨v, he, hw'', hr⟩ => by subst he; exact hK _ _ hw'' hr
  | halt x w' => simp only [Oper.stirUpon] at h
/-- what is asked at one operation -/
def Oper.stirAsk (P : Program) (md : Region.Mode) (ops : Array Oper) (W : World) (k : Nat) (o : Oper) (h : Stir) (a : Act) (F : List (Nat × (World → Prop))) : Prop :=
  if Region.wanted o (yielded ops a.tmps) then ∀ p : Regrown, depsP md ops k F (grow (redrawn W p.d) p.os) → Oper.stirAt P o a (grow (redrawn W p.d) p.os) h.K h.r else ∀ w, h.r w undef
def wpStir (P : Program) (md : Region.Mode) (ops : Array Oper) (W : World) (Q : Act → World → Prop) : Nat → List Oper → List Stir → Act → List (Nat × (World → Prop)) → Prop
  | _, _, [], a, F => ∀ p : Regrown, allP F (grow (redrawn W p.d) p.os) → Q a (grow (redrawn W p.d) p.os)
  | k, o :: rest, h :: hs, a, F => Oper.stirAsk P md ops W k o h a F ∧ ∀ v, h.sh v → wpStir P md ops W Q (k + 1) rest hs (a.put o.dst v) (h.note k v F)
  | _, [], _ :: _, _, _ => False
def noteAllS (hs : List Stir) (V : Nat → Value) : Nat → List (Nat × (World → Prop))
  | 0 => []
  | k + 1 => match hs[k]? with
    | some h => h.note k (V k) (noteAllS hs V k)
    | none => noteAllS hs V k
theorem depsS_all {hs : List Stir} {V : Nat → Value} {i : Nat} {w : World} : ∀ k, (∀ (j : Nat) (h : Stir), j < k → hs[j]? = some h → waits md ops i j = true → h.r w (V j)) → depsP md ops i (noteAllS hs V k) w
  | 0, _ => trivial
  | k + 1, H => by
    have ih := depsS_all k (fun j h hj => H j h (by omega))
    unfold noteAllS
    cases e : hs[k]? with
    | none => exact ih
    | some h =>
      have := H k h (by omega) e
      cases h with
      | const c => exact ih
      | held s r => exact ⟨fun hw => (this hw).2, ih⟩
      | stir s r K => exact ⟨fun hw => (this hw).2, ih⟩
theorem allS_all {hs : List Stir} {V : Nat → Value} {w : World} : ∀ k, (∀ (j : Nat) (h : Stir), j < k → hs[j]? = some h → h.r w (V j)) → allP (noteAllS hs V k) w
  | 0, _ => trivial
  | k + 1, H => by
    have ih := allS_all k (fun j h hj => H j h (by omega))
    unfold noteAllS
    cases e : hs[k]? with
    | none => exact ih
    | some h =>
      have := H k h (by omega) e
      cases h with
      | const c => exact ih
      | held s r => exact ⟨this.2, ih⟩
      | stir s r K => exact ⟨this.2, ih⟩
theorem wpStir_at {W : World} {Q : Act → World → Prop} {hs0 : List Stir} {V : Nat → Value} {a0 : Act} (hV : ∀ (k : Nat) (h : Stir), hs0[k]? = some h → h.sh (V k)) :
    ∀ (hs : List Stir) (k : Nat) (l : List Oper), (∀ j, l[j]? = ops[k + j]?) → (∀ j, hs[j]? = hs0[k + j]?) → k + hs.length = hs0.length →
      wpStir P md ops W Q k l hs (frameOf ops V (fun _ => true) a0 k) (noteAllS hs0 V k) →
      (∀ (j : Nat) (h : Stir), k ≤ j → hs0[j]? = some h → ∃ o, ops[j]? = some o ∧ Oper.stirAsk P md ops W j o h (frameOf ops V (fun _ => true) a0 j) (noteAllS hs0 V j)) ∧
      ∀ p : Regrown, allP (noteAllS hs0 V hs0.length) (grow (redrawn W p.d) p.os) → Q (frameOf ops V (fun _ => true) a0 hs0.length) (grow (redrawn W p.d) p.os)
  | [], k, l, _, hh, hn, H => by
    have e : k = hs0.length := by simpa using hn
    subst e
    refine ⟨fun j h hj hjh => ?_, by cases l <;> exact H⟩
    have := (List.getElem?_eq_some_iff.1 hjh).1
    omega
  | h :: hs, k, [], hl, hh, hn, H => H.elim
  | h :: hs, k, o :: l, hl, hh, hn, H => by
    have h0 : ops[k]? = some o := by simpa using (hl 0).symm
    have h1 : hs0[k]? = some h := by simpa using (hh 0).symm
    obtain ⟨H1, H2⟩ := H
    have e1 : frameOf ops V (fun _ => true) a0 (k + 1) = (frameOf ops V (fun _ => true) a0 k).put o.dst (V k) := by
      rw [frameOf, if_pos rfl]; simp [dstOf, h0]
    have e2 : noteAllS hs0 V (k + 1) = h.note k (V k) (noteAllS hs0 V k) := by rw [noteAllS, h1]
    obtain ⟨g1, g2⟩ := wpStir_at hV hs (k + 1) l (fun j => by have := hl (j + 1); simpa [Nat.add_assoc, Nat.add_comm 1 j] using this) (fun j => by have := hh (j + 1); simpa [Nat.add_assoc, Nat.add_comm 1 j] using this) (by simp only [List.length_cons] at hn; omega) (by rw [e1, e2]; exact H2 _ (hV k h h1))
    refine ⟨fun j h' hj hjh => ?_, g2⟩
    rcases Nat.eq_or_lt_of_le hj with e | e
    · subst e
      obtain rfl : h = h' := Option.some.inj (h1.symm.trans hjh)
      exact ⟨o, h0, H1⟩
    · exact g1 j h' e hjh
theorem reach_listed2 {listed : Array Bool} (hs : Shut md ops listed) (d i j : Nat) (hi : listed.getD i false = true) (h : reach md ops d i j = true) : listed.getD j false = true :=
  reach_listed hs d i j (fun k hk => hs.shut i k hi hk) h
def stirB (md : Region.Mode) (ops : Array Oper) (n : Nat) : Bool :=
  orderedB md ops && decide (n ≤ ops.size) && (List.range ops.size).all fun i => decide (i < n) || (List.range i).all fun j => reach md ops 6 i j
/-- an operation that turns what the region has made keeps what is said of all others, but of those that wait for it -/
def crossAll (md : Region.Mode) (ops : Array Oper) (N : Nat) (hs : List Stir) : Prop :=
  ∀ i s r K, hs[i]? = some (.stir s r K) → (∀ w w', N ≤ w.heap.size → K w w' → Below N w w') ∧ ∀ j h, hs[j]? = some h → j ≠ i → reach md ops 6 j i = true ∨ ∀ w w' v, K w w' → h.r w v → h.r w' v
/-- **THE LAW.** -/
theorem wp_region_stir {rid : Nat} {Q : Exit → Act → World → Prop} {a : Act} {w : World} {l : List Oper} (n : Nat) (hs : List Stir) (hm : P.follows .mixedOrders = true) (hB : stirB .any l.toArray n = true) (hn : hs.length = n) (hg : goodAllS hs) (hx : crossAll .any l.toArray w.heap.size hs)
    (h : wpStir P .any l.toArray w (fun a' w' => wpList P l.toArray Q (l.drop n) a' w') 0 l hs a []) : (Code.region rid l.toArray true).wp P Q a w := by
  unfold stirB at hB
  simp only [Bool.and_eq_true, decide_eq_true_eq, List.all_eq_true, List.mem_range, Bool.or_eq_true] at hB
  obtain ⟨⟨hord, hnl⟩, htail⟩ := hB
  have H := ordered_of hord
  have hsz : l.toArray.size = l.length := by simp
  have key : ∀ V : Nat → Value, (∀ (k : Nat) (h : Stir), hs[k]? = some h → h.sh (V k)) → _ := fun V hV =>
    wpStir_at (P := P) (md := .any) (ops := l.toArray) (W := w) (Q := fun a' w' => wpList P l.toArray Q (l.drop n) a' w') (a0 := a) hV hs 0 l (fun j => by simp) (fun j => by simp) (by omega) h
  have hwit : ∃ V : Nat → Value, ∀ (k : Nat) (h : Stir), hs[k]? = some h → h.sh (V k) := by
    have hx : ∀ k : Nat, ∃ v : Value, ∀ h : Stir, hs[k]? = some h → h.sh v := fun k => by
      cases e : hs[k]? with
      | none => exact ⟨undef, fun h hh => by cases hh⟩
      | some h =>
        obtain ⟨v, hv⟩ := Stir.some (goodAllS_at hg e)
        exact ⟨v, fun h' hh => by injection hh with hh; subst hh; exact hv⟩
    exact ⟨fun k => (hx k).choose, fun k => (hx k).choose_spec⟩
  -- the end of the first part
  have final : ∀ (V : Nat → Value) (listed : Array Bool) (w' : World), (∀ (k : Nat) (h : Stir), hs[k]? = some h → h.sh (V k)) → Below w.heap.size w w' → (∀ j, j < n → listed.getD j false = true) → (∀ j, n ≤ j → listed.getD j false = false) → (∀ (j : Nat) (h : Stir), hs[j]? = some h → listed.getD j false = true → h.r w' (V j)) →
      wpList P l.toArray Q (l.drop n) (frameOf l.toArray V (fun k => listed.getD k false) a l.toArray.size) w' := by
    intro V listed w' hV hb hall hno hr
    obtain ⟨p, rfl⟩ := regrown_of_below hb
    have := (key V hV).2 p (allS_all _ fun j h hj hjh => hr j h hjh (hall j (by omega)))
    rw [hn] at this
    have e1 : frameOf l.toArray V (fun k => listed.getD k false) a n = frameOf l.toArray V (fun _ => true) a n := frameOf_congr n fun j hj => ⟨hall j hj, fun _ => rfl⟩
    have e2 : ∀ m, n ≤ m → frameOf l.toArray V (fun k => listed.getD k false) a m = frameOf l.toArray V (fun k => listed.getD k false) a n := by
      intro m
      induction m with
      | zero => intro hm'; obtain rfl : n = 0 := by omega
                rfl
      | succ m ih =>
        intro hm'
        rcases Nat.eq_or_lt_of_le hm' with e | e
        · rw [e]
        · rw [frameOf, ih (by omega), if_neg]; rw [hno m (by omega)]; exact Bool.false_ne_true
    rw [e2 _ hnl, e1]
    exact this
  refine wp_region_any hm ?_
  refine wpAny_inv (fun listed a' w' => ((∀ j, n ≤ j → listed.getD j false = false) ∧ ∃ V : Nat → Value, (∀ (k : Nat) (h : Stir), hs[k]? = some h → h.sh (V k)) ∧ a' = frameOf l.toArray V (fun k => listed.getD k false) a l.toArray.size ∧ Below w.heap.size w w' ∧ ∀ (j : Nat) (h : Stir), hs[j]? = some h → listed.getD j false = true → h.r w' (V j)) ∨
      ∃ m, n ≤ m ∧ (∀ j, j < m → listed.getD j false = true) ∧ (∀ j, m ≤ j → listed.getD j false = false) ∧ wpList P l.toArray Q (l.drop m) a' w') ?_ ?_ _ _ _ _ (left_le _ _) Shut.none (.inl ⟨fun j _ => ?_, ?_⟩)
  · intro listed a' w' i hsh hI hr
    obtain ⟨hun, oi, hoi, _⟩ := mem_ready.1 hr
    have hi : i < l.toArray.size := (Array.getElem?_eq_some_iff.1 hoi).1
    have hil : i < listed.size := by rw [hsh.size]; exact hi
    have hunf := listed_both hun
    have hset : (listed.setIfInBounds i true).getD i false = true := set_same hil false
    have tailstep : ∀ m, n ≤ m → (∀ j, j < m → listed.getD j false = true) → (∀ j, m ≤ j → listed.getD j false = false) → n ≤ i → wpList P l.toArray Q (l.drop m) a' w' →
        wpOp P l.toArray Q i (fun a'' w'' => ((∀ j, n ≤ j → (listed.setIfInBounds i true).getD j false = false) ∧ ∃ V : Nat → Value, (∀ (k : Nat) (h : Stir), hs[k]? = some h → h.sh (V k)) ∧ a'' = frameOf l.toArray V (fun k => (listed.setIfInBounds i true).getD k false) a l.toArray.size ∧ Below w.heap.size w w'' ∧ ∀ (j : Nat) (h : Stir), hs[j]? = some h → (listed.setIfInBounds i true).getD j false = true → h.r w'' (V j)) ∨
          ∃ m, n ≤ m ∧ (∀ j, j < m → (listed.setIfInBounds i true).getD j false = true) ∧ (∀ j, m ≤ j → (listed.setIfInBounds i true).getD j false = false) ∧ wpList P l.toArray Q (l.drop m) a'' w'') a' w' := by
      intro m hnm hall hno hni hw
      have him : i = m := by
        rcases Nat.lt_trichotomy i m with h' | h' | h'
        · rw [hall i h'] at hunf; cases hunf
        · exact h'
        · have h1 := ((htail i hi).resolve_left (by omega)) m h'
          have h2 := reach_listed hsh 6 i m (fun k hk => waits_listed hr hk) h1
          rw [hno m (Nat.le_refl _)] at h2; cases h2
      subst him
      have hli : l[i]? = some oi := by simpa using hoi
      have hdrop : l.drop i = oi :: l.drop (i + 1) := by
        have hlt : i < l.length := by omega
        rw [List.drop_eq_getElem_cons hlt]
        congr 1
        rw [List.getElem?_eq_getElem hlt] at hli
        exact Option.some.inj hli
      rw [hdrop] at hw
      simp only [wpList] at hw
      have hall' : ∀ j, j < i + 1 → (listed.setIfInBounds i true).getD j false = true := fun j hj => by
        rcases Nat.lt_or_ge j i with h' | h'
        · rw [getD_set_ne false (by omega)]; exact hall j h'
        · obtain rfl : j = i := by omega
          exact hset
      have hno' : ∀ j, i + 1 ≤ j → (listed.setIfInBounds i true).getD j false = false := fun j hj => by
        rw [getD_set_ne false (by omega)]; exact hno j (by omega)
      unfold Go.wpOp
      simp only [hoi]
      split
      · rename_i hwt
        rw [if_pos hwt] at hw
        exact hw.imp (Oper.wp_mono fun a'' w'' h'' => .inr ⟨i + 1, by omega, hall', hno', h''⟩) (fun h => h)
      · rename_i hwt
        rw [if_neg hwt] at hw
        exact .inr ⟨i + 1, by omega, hall', hno', hw⟩
    rcases hI with ⟨hno, V, hV, rfl, hb, hrr⟩ | ⟨m, hnm, hall, hno, hw⟩
    · rcases Nat.lt_or_ge i n with hin | hin
      · -- an operation of the first part
        have hx : ∃ h, hs[i]? = some h := ⟨hs[i]'(by omega), by simp⟩
        obtain ⟨hh, hhi⟩ := hx
        obtain ⟨o', ho', hask⟩ := (key V hV).1 i hh (Nat.zero_le _) hhi
        obtain rfl : oi = o' := Option.some.inj (hoi.symm.trans ho')
        have hsee := H.sees (V := V) (V' := V) (M := fun _ => true) (a := a) hsh hoi hr (fun k _ hk => by cases hk) (fun _ _ => rfl)
        have hput : ∀ v, (frameOf l.toArray V (fun k => listed.getD k false) a l.toArray.size).put oi.dst v = frameOf l.toArray (fun k => if k = i then v else V k) (fun k => (listed.setIfInBounds i true).getD k false) a l.toArray.size := fun v => by
          have e1 : dstOf l.toArray i = oi.dst := by simp [dstOf, hoi]
          rw [H.frame_put hsh hi hun, e1, if_pos rfl]
          congr 1
          exact frameOf_congr _ fun j _ => ⟨rfl, fun hj => by rw [if_neg (fun e => by subst e; rw [hunf] at hj; cases hj)]⟩
        have hnext : ∀ v w'', Below w.heap.size w' w'' → (∀ (j : Nat) (h : Stir), hs[j]? = some h → j ≠ i → listed.getD j false = true → h.r w' (V j) → h.r w'' (V j)) → hh.r w'' v → ((∀ j, n ≤ j → (listed.setIfInBounds i true).getD j false = false) ∧ ∃ V' : Nat → Value, (∀ (k : Nat) (h : Stir), hs[k]? = some h → h.sh (V' k)) ∧ (frameOf l.toArray V (fun k => listed.getD k false) a l.toArray.size).put oi.dst v = frameOf l.toArray V' (fun k => (listed.setIfInBounds i true).getD k false) a l.toArray.size ∧ Below w.heap.size w w'' ∧ ∀ (j : Nat) (h : Stir), hs[j]? = some h → (listed.setIfInBounds i true).getD j false = true → h.r w'' (V' j)) := by
          intro v w'' hb' hkeep hrv
          refine ⟨fun j hj => by rw [getD_set_ne false (by omega)]; exact hno j hj, fun k => if k = i then v else V k, fun k h hk => ?_, hput v, hb.trans hb', fun j h hjh hj => ?_⟩
          · by_cases e : k = i
            · subst e
              obtain rfl : hh = h := Option.some.inj (hhi.symm.trans hk)
              simp only [if_true]
              exact Stir.r_sh hrv
            · simp only [if_neg e]; exact hV k h hk
          · by_cases e : j = i
            · subst e
              obtain rfl : hh = h := Option.some.inj (hhi.symm.trans hjh)
              simp only [if_true]
              exact hrv
            · simp only [if_neg e]
              rw [getD_set_ne false (Ne.symm e)] at hj
              exact hkeep j h hjh e hj (hrr j h hjh hj)
        unfold Go.wpOp
        simp only [hoi]
        rw [wanted_of_slots hsee]
        unfold Oper.stirAsk at hask
        by_cases hwt : Region.wanted oi (yielded l.toArray (frameOf l.toArray V (fun _ => true) a i).tmps) = true
        · rw [if_pos hwt] at hask
          rw [if_pos hwt]
          obtain ⟨p, rfl⟩ := regrown_of_below hb
          have h1 := hask p (depsS_all _ fun j h hj hjh hw => hrr j h hjh (waits_listed hr hw))
          have hst : ∀ v w'', hh.K (grow (redrawn w p.d) p.os) w'' → hh.r w'' v → _ := fun v w'' hk hrv => hnext v w'' (by
            cases hh with
            | const c => exact (show Below _ _ _ from hk).mono hb.size
            | held s r => exact (show Below _ _ _ from hk).mono hb.size
            | stir s r K => exact (hx i s r K hhi).1 _ _ hb.size hk) (fun j h hjh hji hj hr1 => by
            cases hh with
            | const c => exact Stir.r_mono (goodAllS_at hg hjh) hk hr1
            | held s r => exact Stir.r_mono (goodAllS_at hg hjh) hk hr1
            | stir s r K =>
              rcases (hx i s r K hhi).2 j h hjh hji with h1 | h1
              · have h2 := reach_listed2 hsh 6 j i hj h1
                rw [hunf] at h2
                cases h2
              · exact h1 _ _ _ hk hr1) hrv
          refine .inl (Oper.wp_of_stir ?_ fun v w'' hb' hrv => .inl (hst v w'' hb' hrv))
          unfold Oper.stirAt at h1 ⊢
          rwa [exec_of_slots (ops := l.toArray) (fun cs b => Region.noSelect_spec H.sel i oi cs b hoi) hsee]
        · rw [if_neg hwt] at hask
          rw [if_neg hwt]
          exact .inl (hnext undef w' (Below.refl _ _) (fun j h _ _ _ h1 => h1) (hask _))
      · have hall : ∀ j, j < n → listed.getD j false = true := fun j hj => reach_listed hsh 6 i j (fun k hk => waits_listed hr hk) (((htail i hi).resolve_left (by omega)) j (by omega))
        exact tailstep n (Nat.le_refl _) hall hno hin (final V listed w' hV hb hall hno hrr)
    · have hni : n ≤ i := by
        rcases Nat.lt_or_ge i n with h' | h'
        · rw [hall i (by omega)] at hunf; cases hunf
        · exact h'
      exact tailstep m hnm hall hno hni hw
  · intro listed a' w' hsh hI hr
    have hall := H.all hsh hr
    rcases hI with ⟨hno, V, hV, rfl, hb, hrr⟩ | ⟨m, hnm, hall', hno, hw⟩
    · have hnn : n = l.length := by
        rcases Nat.lt_or_ge n l.length with h' | h'
        · have := hall n (by omega); rw [hno n (Nat.le_refl _)] at this; cases this
        · omega
      have := final V listed w' hV hb (fun j hj => hall j (by omega)) hno hrr
      rw [hnn, List.drop_length] at this
      exact this
    · have hmm : l.length ≤ m := by
        rcases Nat.lt_or_ge m l.length with h' | h'
        · have := hall m (by omega); rw [hno m (Nat.le_refl _)] at this; cases this
        · exact h'
      rw [List.drop_eq_nil_of_le hmm] at hw
      exact hw
  · rcases Nat.lt_or_ge j l.length with h' | h' <;> simp [h']
  · obtain ⟨V, hV⟩ := hwit
    refine ⟨V, hV, ?_, (Below.refl _ _).drew, fun j h _ hj => ?_⟩
    · symm
      have : ∀ k, frameOf l.toArray V (fun k => (Array.replicate l.toArray.size false).getD k false) a k = a := fun k => by
        induction k with
        | zero => rfl
        | succ k ih => rw [frameOf, ih, if_neg]; rcases Nat.lt_or_ge k l.length with h' | h' <;> simp [h']
      exact this _
    · rcases Nat.lt_or_ge j l.length with h' | h' <;> simp [h'] at hj
theorem wpStir_end {W : World} {Q : Act → World → Prop} {k : Nat} {l : List Oper} {a : Act} {F : List (Nat × (World → Prop))} (h : ∀ w', Below W.heap.size W w' → allP F w' → Q a w') : wpStir P md ops W Q k l [] a F := by
  have h' : ∀ p : Regrown, allP F (grow (redrawn W p.d) p.os) → Q a (grow (redrawn W p.d) p.os) := fun p => h _ (below_regrown _ _ _)
  cases l <;> exact h'
theorem wpStir_const {W : World} {Q : Act → World → Prop} {k : Nat} {o : Oper} {l : List Oper} {c : Value} {hs : List Stir} {a : Act} {F : List (Nat × (World → Prop))}
    (h1 : if Region.wanted o (yielded ops a.tmps) then ∀ p : Regrown, depsP md ops k F (grow (redrawn W p.d) p.os) → Oper.stirAt P o a (grow (redrawn W p.d) p.os) Newer (fun _ v => v = c) else c = undef)
    (h2 : wpStir P md ops W Q (k + 1) l hs (a.put o.dst c) F) : wpStir P md ops W Q k (o :: l) (.const c :: hs) a F := by
  refine ⟨?_, fun v hv => by rw [show v = c from hv]; exact h2⟩
  unfold Oper.stirAsk
  split
  · rename_i hw; rw [if_pos hw] at h1; exact h1
  · rename_i hw; rw [if_neg hw] at h1; exact fun _ => h1.symm
theorem wpStir_held {W : World} {Q : Act → World → Prop} {k : Nat} {o : Oper} {l : List Oper} {s : Value → Prop} {r : World → Value → Prop} {hs : List Stir} {a : Act} {F : List (Nat × (World → Prop))} (hg : o.guard = none)
    (h1 : ∀ w', Below W.heap.size W w' → depsP md ops k F w' → Oper.stirAt P o a w' Newer (fun w v => s v ∧ r w v))
    (h2 : ∀ v, s v → wpStir P md ops W Q (k + 1) l hs (a.put o.dst v) ((k, fun w => r w v) :: F)) : wpStir P md ops W Q k (o :: l) (.held s r :: hs) a F := by
  refine ⟨?_, fun v hv => h2 v hv⟩
  unfold Oper.stirAsk Region.wanted
  rw [hg, if_pos rfl]
  exact fun p => h1 _ (below_regrown _ _ _)
attribute [go_sem] Oper.stirAt Oper.stirUpon
end
theorem owns_below {w w' : World} {base : Nat} {e : TypeId} {size : Nat} {v : Value} {n : Nat} {xs : List Value} (h : w.ownsRow base e size v n xs) (hb : Below w.heap.size w w') : w'.ownsRow base e size v n xs :=
  h.kept (row := none) ⟨hb.os, hb.tape, hb.output, hb.size, fun k hk _ => hb.block k hk⟩ (by cases v.ownBlock <;> simp)
theorem owns_lower {w : World} {base base' : Nat} {e : TypeId} {size : Nat} {v : Value} {n : Nat} {xs : List Value} (h : w.ownsRow base e size v n xs) (hb : base' ≤ base) : w.ownsRow base' e size v n xs :=
  ⟨h.1, h.2.imp id fun ⟨g, cap, cur, h1, h2, h3⟩ => ⟨g, cap, cur, h1, Nat.le_trans hb h2, h3⟩⟩
theorem owns_form {w : World} {base : Nat} {e : TypeId} {size : Nat} {v : Value} {n : Nat} {xs : List Value} (h : w.ownsRow base e size v n xs) (hn : 0 < n) : ∃ g cap, v = .slice (some ⟨g, 0, none⟩) n cap := by
  rcases h.2 with ⟨_, h0⟩ | ⟨g, cap, cur, hv, _⟩
  · omega
  · exact ⟨g, cap, hv⟩
/-- the row of a value is one of elements of this type -/
theorem owns_typed {w : World} {base : Nat} {e : TypeId} {size : Nat} {v : Value} {n : Nat} {xs : List Value} (h : w.ownsRow base e size v n xs) : ∀ g, v.ownBlock = some g → base ≤ g ∧ ∃ cur, w.heap[g]? = some (.cells cur e (0, 0)) := by
  intro g hg
  rcases h.2 with ⟨rfl, _⟩ | ⟨g', cap, cur, rfl, h1, h2, _⟩
  · cases hg
  · have : g' = g := by simpa [Value.ownBlock] using hg
    subst this
    exact ⟨h1, cur, h2⟩
/-- a row at hand that is gone on with: one without anything, or one of the region's own -/
def AtHand (N : Nat) (e : TypeId) (size n : Nat) (xs : List Value) (w : World) (v : Value) : Prop :=
  (n = 0 ∧ xs = [] ∧ ∃ g, v = .slice (some ⟨g, 0, none⟩) 0 0) ∨ (0 < n ∧ w.ownsRow N e size v n xs)
def ShapeOf (n : Nat) (v : Value) : Prop := ∃ g c, v = .slice (some ⟨g, 0, none⟩) n c
/-! ### Bounds -/
/-! ### Spans -/
section
variable {P : Program} {ops : Array Oper} {md : Region.Mode}
theorem goodVals : ∀ cs : List Value, goodAllS (cs.map Stir.const)
  | [] => trivial
  | _ :: cs => ⟨trivial, goodVals cs⟩
theorem crossVals (md : Region.Mode) (ops : Array Oper) (N : Nat) (cs : List Value) : crossAll md ops N (cs.map Stir.const) := by
  intro i s r K h
  rw [List.getElem?_map] at h
  cases e : cs[i]? <;> rw [e] at h <;> cases h
/-- a region that draws, whose values are known, and a tail -/
theorem wp_region_vals {rid : Nat} {Q : Exit → Act → World → Prop} {a : Act} {w : World} {l : List Oper} (n : Nat) (cs : List Value) (hm : P.follows .mixedOrders = true) (hB : stirB .any l.toArray n = true) (hn : cs.length = n)
    (h : wpStir P .any l.toArray w (fun a' w' => wpList P l.toArray Q (l.drop n) a' w') 0 l (cs.map Stir.const) a []) : (Code.region rid l.toArray true).wp P Q a w :=
  wp_region_stir n _ hm hB (by rw [List.length_map]; exact hn) (goodVals cs) (crossVals _ _ _ cs) h
end
theorem grown_below {w w' : World} {row : Option Nat} (h : Below w.heap.size w w') : w.grownBy w' row := ⟨h.os, h.tape, h.output, h.size, fun k hk _ => h.block k hk⟩
theorem within_b (n lo hi : Int) (b : Bool) (w : World) (h : inR n lo hi = b) : Calls Tryz.prog 9 #[.int .i64 n, .int .i64 lo, .int .i64 hi] w fun e w' => e = .returned (.bool b) ∧ w = w' :=
  (Within01_any n lo hi w).mono fun e w' ⟨he, hw⟩ => ⟨by rw [he, h], hw⟩
theorem within_bb (n lo hi : Int) (b : Bool) (w : World) (h : inR n lo hi = b) : Calls Tryz.prog 9 #[.int .i64 n, .int .i64 lo, .int .i64 hi] w fun e w' => e = .returned (.bool b) ∧ Below w.heap.size w w' :=
  (within_b n lo hi b w h).mono fun e w' ⟨he, hw⟩ => ⟨he, by rw [hw]; exact Below.refl _ _⟩
/-! ### Rows of structs -/
def catL (f : Nat → List Value) : Nat → List Value
  | 0 => []
  | n + 1 => catL f n ++ f n
theorem catL_len {f : Nat → List Value} {s : Nat} (hs : ∀ i, (f i).length = s) : ∀ n, (catL f n).length = n * s
  | 0 => by simp [catL]
  | n + 1 => by simp only [catL, List.length_append, catL_len hs n, hs n, Nat.add_mul]; omega
theorem catL_get {f : Nat → List Value} {s : Nat} (hs : ∀ i, (f i).length = s) {i j : Nat} (hj : j < s) : ∀ n, i < n → (catL f n)[i * s + j]? = (f i)[j]?
  | 0, h => by omega
  | n + 1, h => by
    have hl := catL_len hs n
    simp only [catL]
    rcases Nat.lt_or_ge i n with h1 | h1
    · have : (i + 1) * s ≤ n * s := Nat.mul_le_mul_right _ h1
      rw [Nat.add_mul] at this
      rw [List.getElem?_append_left (by omega)]
      exact catL_get hs hj n h1
    · obtain rfl : i = n := by omega
      rw [List.getElem?_append_right (by omega), hl, Nat.add_sub_cancel_left]
theorem catL_inv {f : Nat → List Value} {s : Nat} (hs : ∀ i, (f i).length = s) {k : Nat} {v : Value} : ∀ n, (catL f n)[k]? = some v → ∃ i j, i < n ∧ j < s ∧ k = i * s + j ∧ (f i)[j]? = some v
  | 0, h => by simp [catL] at h
  | n + 1, h => by
    have hl := catL_len hs n
    simp only [catL] at h
    rcases Nat.lt_or_ge k (n * s) with h1 | h1
    · rw [List.getElem?_append_left (by omega)] at h
      obtain ⟨i, j, a, b, c, d⟩ := catL_inv hs n h
      exact ⟨i, j, by omega, b, c, d⟩
    · rw [List.getElem?_append_right (by omega), hl] at h
      have h2 : k - n * s < s := by
        have := (List.getElem?_eq_some_iff.1 h).1
        rw [hs n] at this
        exact this
      exact ⟨n, k - n * s, by omega, h2, by omega, h⟩
theorem catL_congr {f g : Nat → List Value} : ∀ n, (∀ i, i < n → f i = g i) → catL f n = catL g n
  | 0, _ => rfl
  | n + 1, h => by simp only [catL]; rw [catL_congr n (fun i hi => h i (by omega)), h n (by omega)]
theorem catL_nil {f : Nat → List Value} {s n : Nat} (hs : ∀ i, (f i).length = s) (hp : 0 < s) (h : catL f n = []) : n = 0 := by
  have := catL_len hs n
  rw [h] at this
  rcases Nat.eq_zero_or_pos n with e | e
  · exact e
  · have := Nat.mul_pos e hp
    simp at *
    omega
/-! ### A row at hand -/
theorem AtHand.row {N : Nat} {e : TypeId} {size n : Nat} {xs : List Value} {w : World} {v : Value} (h : AtHand N e size n xs w v) : ∃ A c, v = .slice A n c ∧ RowAt w A xs := by
  rcases h with ⟨rfl, rfl, g, rfl⟩ | ⟨hn, ho⟩
  · exact ⟨_, _, rfl, .inl rfl⟩
  · obtain ⟨g, cap, rfl⟩ := owns_form ho hn
    rcases id ho.2 with ⟨h, _⟩ | ⟨g', _, _, e, _, hb, _⟩
    · cases h
    · injection e with e1
      injection e1 with e1
      injection e1 with e1
      subst e1
      exact ⟨_, _, rfl, .inr ⟨g, 0, rfl, (Array.getElem?_eq_some_iff.1 hb).1, fun j u hj => by have := ho.cells (g := g) rfl j u hj; rwa [show (⟨g, 0, none⟩ : Addr).add j = ⟨g, 0 + j, none⟩ from by unfold Addr.add; split <;> simp_all] at this⟩⟩
theorem AtHand.below {N : Nat} {e : TypeId} {size n : Nat} {xs : List Value} {w w' : World} {v : Value} (hb : Below w.heap.size w w') (h : AtHand N e size n xs w v) : AtHand N e size n xs w' v :=
  h.imp id fun h => ⟨h.1, owns_below h.2 hb⟩
def noStir : List Stir → Prop
  | [] => True
  | .stir _ _ _ :: _ => False
  | _ :: l => noStir l
theorem noStir_of : ∀ (l : List Stir), noStir l → ∀ (i : Nat) (s : Value → Prop) (r : World → Value → Prop) (K : World → World → Prop), l[i]? ≠ some (Stir.stir s r K)
  | [], _, i, s, r, K => by simp
  | x :: l, hn, i, s, r, K => by
    cases x with
    | const c =>
      cases i with
      | zero => intro h; simp at h
      | succ i => rw [List.getElem?_cons_succ]; exact noStir_of l hn i s r K
    | held s' r' =>
      cases i with
      | zero => intro h; simp at h
      | succ i => rw [List.getElem?_cons_succ]; exact noStir_of l hn i s r K
    | stir s' r' K' => exact hn.elim
theorem crossAll_no (md : Region.Mode) (ops : Array Oper) (N : Nat) (hs : List Stir) (h : noStir hs) : crossAll md ops N hs := fun i s r K hi => absurd hi (noStir_of hs h i s r K)
/-- an empty row of its own -/
def emptyV (v : Value) : Prop := ∃ b, v = .slice (some ⟨b, 0, none⟩) 0 0
def anyR (_ : World) (_ : Value) : Prop := True
theorem anyG : (Stir.held emptyV anyR).good := ⟨⟨_, 0, rfl⟩, fun _ _ _ _ _ => trivial⟩
theorem shapeG (N : Nat) (e : TypeId) (size n : Nat) (xs : List Value) : (Stir.held (ShapeOf n) (AtHand N e size n xs)).good := ⟨⟨_, 0, 0, rfl⟩, fun _ _ _ hb h => h.below hb⟩
theorem cell_of_heap {w w' : World} {b : Nat} (h : w'.heap[b]? = w.heap[b]?) (o : Nat) : w'.cell? ⟨b, o, none⟩ = w.cell? ⟨b, o, none⟩ := World.cell?_of_block (a := ⟨b, o, none⟩) h
/-- a variable of the call's own: its cells -/
structure BoxAt (w : World) (a : Nat) (cs : List Value) : Prop where
  lt : a < w.heap.size
  cell : ∀ i v, cs[i]? = some v → w.cell? ⟨a, i, none⟩ = some v
theorem BoxAt.mono {w w' : World} {a : Nat} {cs : List Value} (h : BoxAt w a cs) (hb : Below w.heap.size w w') : BoxAt w' a cs :=
  ⟨Nat.lt_of_lt_of_le h.lt hb.size, fun i v hi => (hb.cell (p := ⟨a, i, none⟩) h.lt).trans (h.cell i v hi)⟩
theorem BoxAt.two {w : World} {a : Nat} {x y : Value} (h : a < w.heap.size) (h0 : w.cell? ⟨a, 0, none⟩ = some x) (h1 : w.cell? ⟨a, 1, none⟩ = some y) : BoxAt w a [x, y] :=
  ⟨h, fun i v hi => match i, hi with
    | 0, hi => by injection hi with hi; subst hi; exact h0
    | 1, hi => by injection hi with hi; subst hi; exact h1⟩
/-- whether two spans differ -/
def diffS (a b c d : Int) : Bool := decide (¬ (a = c ∧ b = d))
theorem neqSpan (w : World) (a b c d : Int) : (binOp .neq 43 (.agg #[.int .i64 a, .int .i64 b]) (.agg #[.int .i64 c, .int .i64 d])).run Tryz.prog w = .ok (.bool (diffS a b c d)) w := by
  by_cases h1 : a = c
  · by_cases h2 : b = d
    · subst h1 h2; simp [go_sem, diffS]
    · subst h1; have : (b == d) = false := by simp [h2]
      simp [go_sem, diffS, h2, this]
  · have : (a == c) = false := by simp [h1]
    simp [go_sem, diffS, h1, this]
attribute [go_sem ↓] neqSpan
theorem BoxAt.put2 {w : World} {a : Nat} {x y : Value} (h : BoxAt w a [x, y]) (u v : Value) : BoxAt ((w.setCell ⟨a, 0, none⟩ u).setCell ⟨a, 1, none⟩ v) a [u, v] :=
  BoxAt.two (by simpa [World.setCell] using h.lt) ((World.cell?_setCell_other _ _ _ _ (fun e => by injection e with _ e; omega)).trans (World.cell?_setCell_same _ _ _ (h.cell 0 _ rfl)))
    (World.cell?_setCell_same _ _ _ ((World.cell?_setCell_other _ _ _ _ (fun e => by injection e with _ e; omega)).trans (h.cell 1 _ rfl)))
theorem frz_set {w : World} {a : Nat} (h : ∀ o, w.frozen? ⟨a, o, none⟩ = false) (p : Addr) (v : Value) : ∀ o, (w.setCell p v).frozen? ⟨a, o, none⟩ = false := fun o => by rw [World.frozen?_setCell]; exact h o
theorem BoxAt.three {w : World} {a : Nat} {x y z : Value} (h : a < w.heap.size) (h0 : w.cell? ⟨a, 0, none⟩ = some x) (h1 : w.cell? ⟨a, 1, none⟩ = some y) (h2 : w.cell? ⟨a, 2, none⟩ = some z) : BoxAt w a [x, y, z] :=
  ⟨h, fun i v hi => match i, hi with
    | 0, hi => by injection hi with hi; subst hi; exact h0
    | 1, hi => by injection hi with hi; subst hi; exact h1
    | 2, hi => by injection hi with hi; subst hi; exact h2⟩
end Go.Proofs.YtifkjnmnflhnoaaGreatDoor

