/- Parts joined. -/
import Derived.Test.YtchhodikgllgnaaDoorNQI
import Derived.Test.YtchhodikgllgnaaDoorNQE
set_option linter.unusedSimpArgs false
set_option linter.unusedVariables false
/- Towns with one fact more, one world more, or in another order: what becomes of the worlds that are left. Plain Lean. No condition but what is said. -/
namespace Go.Proofs.YtchhodikgllgnaaDoor
open Go.RowKit Go.Sort
/-! ### One fact more -/
def Qt.add (t : Qt) (f : Fact) : Qt := ⟨t.wells, t.nw, t.world, t.nf + 1, fun i => if i < t.nf then t.fact i else f⟩
theorem leftB_add (t : Qt) (f : Fact) (i : Nat) : (t.add f).leftB i = (t.leftB i && (t.world i).agrees f) := by
  unfold Qt.leftB
  show (!(anyB (fun j => !(t.world i).agrees (if j < t.nf then t.fact j else f)) t.nf || !(t.world i).agrees (if t.nf < t.nf then t.fact t.nf else f))) = _
  rw [if_neg (Nat.lt_irrefl _), anyB_congr (q := fun j => !(t.world i).agrees (t.fact j)) fun j hj => by rw [if_pos hj]]
  simp
theorem leftTo_add (t : Qt) (f : Fact) : ∀ n, (t.add f).leftTo n = (t.leftTo n).filter fun a => (t.world a.toNat).agrees f
  | 0 => rfl
  | n + 1 => by
    have ih := leftTo_add t f n
    unfold Qt.leftTo
    rw [leftB_add, ih]
    cases t.leftB n
    · simp
    · cases h : (t.world n).agrees f <;> simp [h]
theorem leftL_add (t : Qt) (f : Fact) : (t.add f).leftL = t.leftL.filter fun a => (t.world a.toNat).agrees f := leftTo_add t f t.nw
theorem depthF_same {t t' : Qt} (hw : t.wells = t'.wells) (hx : t.world = t'.world) : ∀ (n : Nat) (L : List Int), t.depthF n L = t'.depthF n L := by
  obtain ⟨a, b, c, d, e⟩ := t
  obtain ⟨a', b', c', d', e'⟩ := t'
  simp only at hw hx
  subst hw hx
  intro n
  induction n with
  | zero => exact fun _ => rfl
  | succ n ih =>
    intro L
    have h : (⟨a, b, c, d, e⟩ : Qt).depthF n = (⟨a, b', c, d', e'⟩ : Qt).depthF n := funext ih
    unfold Qt.depthF
    rw [h]
    rfl
theorem depth_same {t t' : Qt} (hw : t.wells = t'.wells) (hx : t.world = t'.world) (L : List Int) : t.depth L = t'.depth L := depthF_same hw hx _ L
/-- what a test has shown, as a fact -/
def shownF (x : Tp) (f : Int) : Fact := ⟨x.1, 1, x.2, f, f⟩
theorem agrees_shown (t : Qt) (x : Tp) (f : Int) (a : Int) : (t.world a.toNat).agrees (shownF x f) = (t.F a x == f) := by
  unfold Wd.agrees shownF Qt.F
  simp only [Int.toNat_natCast, Int.mul_one]
  unfold inR
  refine Bool.eq_iff_iff.2 ?_
  simp only [Bool.and_eq_true, decide_eq_true_eq, beq_iff_eq]
  omega
theorem leftL_shown (t : Qt) (x : Tp) (f : Int) : (t.add (shownF x f)).leftL = t.shown x t.leftL f := by
  rw [leftL_add]
  unfold Qt.shown
  congr 1
  funext a
  exact agrees_shown t x f a
theorem Qt.Ok.falls {t : Qt} (ok : t.Ok) {L : List Int} (hL : ∀ a, a ∈ L → a ∈ t.leftL) : t.Falls L := fun a ha x hx => by
  obtain ⟨i, hi, _, rfl⟩ := (leftTo_mem t t.nw).1 (hL a ha)
  have hm := testsL_mem.1 hx
  have hw := ok.world i hi
  have w0 := ok.w0
  have hk : x.1 < (t.world i).n := by have := hw.n; omega
  have hl := hw.len _ hk
  unfold Qt.F
  rw [Int.toNat_natCast]
  exact hw.fall _ hk _ (by omega)
theorem Qt.Ok.fallsL {t : Qt} (ok : t.Ok) : t.Falls t.leftL := ok.falls fun _ h => h
/-! ### One world more -/
def Qt.again (t : Qt) (k : Nat) : Qt := ⟨t.wells, t.nw + 1, fun i => if i < t.nw then t.world i else t.world k, t.nf, t.fact⟩
theorem again_at (t : Qt) (k : Nat) {i : Nat} (hi : i < t.nw) : (t.again k).world i = t.world i := if_pos hi
theorem again_last (t : Qt) (k : Nat) : (t.again k).world t.nw = t.world k := if_neg (Nat.lt_irrefl _)
theorem leftB_again (t : Qt) (k : Nat) {i : Nat} (hi : i < t.nw) : (t.again k).leftB i = t.leftB i := by
  unfold Qt.leftB
  rw [again_at t k hi]
  rfl
theorem leftB_againL (t : Qt) (k : Nat) : (t.again k).leftB t.nw = t.leftB k := by
  unfold Qt.leftB
  rw [again_last]
  rfl
theorem again_cov (t : Qt) {k : Nat} (hk : k < t.nw) : Cov t (t.again k) t.leftL (t.again k).leftL ∧ Cov (t.again k) t (t.again k).leftL t.leftL := by
  constructor
  · intro a ha
    obtain ⟨i, hi, hb, rfl⟩ := (leftTo_mem t t.nw).1 ha
    refine ⟨(i : Int), (leftTo_mem _ (t.again k).nw).2 ⟨i, Nat.lt_succ_of_lt hi, by rw [leftB_again t k hi]; exact hb, rfl⟩, fun x _ => ?_⟩
    unfold Qt.F
    rw [Int.toNat_natCast, again_at t k hi]
  · intro a ha
    obtain ⟨i, hi, hb, rfl⟩ := (leftTo_mem _ (t.again k).nw).1 ha
    rcases Nat.lt_or_ge i t.nw with h | h
    · rw [leftB_again t k h] at hb
      refine ⟨(i : Int), (leftTo_mem t t.nw).2 ⟨i, h, hb, rfl⟩, fun x _ => ?_⟩
      unfold Qt.F
      rw [Int.toNat_natCast, again_at t k h]
    · have e : i = t.nw := by
        have : i < t.nw + 1 := hi
        omega
      subst e
      rw [leftB_againL] at hb
      refine ⟨(k : Int), (leftTo_mem t t.nw).2 ⟨k, hk, hb, rfl⟩, fun x _ => ?_⟩
      unfold Qt.F
      rw [Int.toNat_natCast, Int.toNat_natCast, again_last]
/-! ### Another order -/
def Qt.turn (t : Qt) (b : Nat) : Qt := ⟨t.wells, t.nw, fun i => t.world ((i + b) % t.nw), t.nf, fun i => t.fact ((i + b) % t.nf)⟩
theorem turn_onto {n b j : Nat} (hj : j < n) : ∃ i, i < n ∧ (i + b) % n = j := by
  have hn : 0 < n := by omega
  have hb := Nat.mod_lt b hn
  refine ⟨(j + (n - b % n)) % n, Nat.mod_lt _ hn, ?_⟩
  rw [Nat.add_mod, Nat.mod_mod, ← Nat.add_mod, Nat.add_assoc]
  have h1 : n - b % n + b = n * (b / n + 1) := by
    have h2 := Nat.mod_add_div b n
    rw [Nat.mul_succ]
    omega
  rw [h1, Nat.add_mul_mod_self_left, Nat.mod_eq_of_lt hj]
theorem Qt.Ok.turn {t : Qt} (ok : t.Ok) (b : Nat) : (t.turn b).Ok :=
  ⟨ok.w0, ok.w1, ok.nw, ok.nf, fun i hi => ok.world _ (Nat.mod_lt _ (Nat.lt_of_le_of_lt (Nat.zero_le _) hi)), fun i hi => ok.fact _ (Nat.mod_lt _ (Nat.lt_of_le_of_lt (Nat.zero_le _) hi))⟩
theorem leftB_turn (t : Qt) (b i : Nat) : (t.turn b).leftB i = t.leftB ((i + b) % t.nw) := by
  unfold Qt.leftB
  congr 1
  refine Bool.eq_iff_iff.2 ?_
  rw [anyB_true, anyB_true]
  show (∃ j, j < t.nf ∧ (!(t.world ((i + b) % t.nw)).agrees (t.fact ((j + b) % t.nf))) = true) ↔ _
  constructor
  · rintro ⟨j, hj, h⟩
    exact ⟨(j + b) % t.nf, Nat.mod_lt _ (Nat.lt_of_le_of_lt (Nat.zero_le _) hj), h⟩
  · rintro ⟨j, hj, h⟩
    obtain ⟨i', hi', e⟩ := turn_onto (b := b) hj
    exact ⟨i', hi', by rw [e]; exact h⟩
theorem F_turn (t : Qt) (b : Nat) (i : Nat) (x : Tp) : (t.turn b).F (i : Int) x = t.F (((i + b) % t.nw : Nat) : Int) x := by
  unfold Qt.F
  rw [Int.toNat_natCast, Int.toNat_natCast]
  rfl
theorem turn_cov (t : Qt) (b : Nat) : Cov t (t.turn b) t.leftL (t.turn b).leftL ∧ Cov (t.turn b) t (t.turn b).leftL t.leftL := by
  constructor
  · intro a ha
    obtain ⟨i, hi, hb, rfl⟩ := (leftTo_mem t t.nw).1 ha
    obtain ⟨j, hj, e⟩ := turn_onto (b := b) hi
    refine ⟨(j : Int), (leftTo_mem _ (t.turn b).nw).2 ⟨j, hj, by rw [leftB_turn, e]; exact hb, rfl⟩, fun x _ => ?_⟩
    rw [F_turn, e]
  · intro a ha
    obtain ⟨i, hi, hb, rfl⟩ := (leftTo_mem _ (t.turn b).nw).1 ha
    have hn : 0 < t.nw := Nat.lt_of_le_of_lt (Nat.zero_le _) hi
    rw [leftB_turn] at hb
    exact ⟨(((i + b) % t.nw : Nat) : Int), (leftTo_mem t t.nw).2 ⟨_, Nat.mod_lt _ hn, hb, rfl⟩, fun x _ => by rw [F_turn]⟩
theorem leftTo_count (t : Qt) : ∀ n, (t.leftTo n).length = (List.range n).countP t.leftB
  | 0 => rfl
  | n + 1 => by
    unfold Qt.leftTo
    rw [List.range_succ, List.countP_append, ← leftTo_count t n]
    split
    · rename_i h
      simp [h]
    · rename_i h
      simp [h]
theorem range_turn {n b : Nat} (hb : b < n) : (List.range n).map (fun i => (i + b) % n) = (List.range n).drop b ++ (List.range n).take b := by
  refine List.ext_getElem (by simp; omega) fun i h1 h2 => ?_
  simp only [List.length_map, List.length_range] at h1
  rw [List.getElem_map, List.getElem_range, List.getElem_append]
  split
  · rename_i h
    simp only [List.length_drop, List.length_range] at h
    simp
    rw [Nat.mod_eq_of_lt (by omega)]
    omega
  · rename_i h
    simp only [List.length_drop, List.length_range] at h
    simp
    rw [Nat.mod_eq_sub_mod (by omega), Nat.mod_eq_of_lt (by omega)]
    omega
theorem leftL_turn_len (t : Qt) (b : Nat) : (t.turn b).leftL.length = t.leftL.length := by
  unfold Qt.leftL
  rw [leftTo_count, leftTo_count]
  show (List.range t.nw).countP _ = _
  rcases Nat.eq_zero_or_pos t.nw with h0 | h0
  · rw [h0]; rfl
  · have e : (t.turn b).leftB = t.leftB ∘ fun i => (i + b % t.nw) % t.nw := by
      funext i
      rw [leftB_turn]
      simp
    rw [e, ← List.countP_map, range_turn (Nat.mod_lt _ h0), List.countP_append, Nat.add_comm, ← List.countP_append, List.take_append_drop]
/-! ### Fewer worlds: spans, and what is known -/
end Go.Proofs.YtchhodikgllgnaaDoor
/- A region that draws its order, in a fence: its operations yield known values in every world of a class and keep to the class; then a tail. No program in sight. -/
namespace Go.Proofs.YtchhodikgllgnaaDoor
open Go.RowKit Go.Sort Go.Shelf
section
variable {P : Program} {ops : Array Oper} {md : Region.Mode} {n : Nat} {F : Fence} {Cl : World → Prop}
/-- a fence that lets everything by -/
structure Open (F : Fence) (P : Program) : Prop where
  fn : ∀ f, F.fn f
  depth : F.depth.isSome = false
  call : ∀ {n f : Nat} {args : Array Value} {w : World} {R : Ending → World → Prop}, Calls P f args w R → CallsIn F n P f args w R
theorem openWide (P : Program) : Open Fence.wide P := ⟨fun _ => trivial, rfl, fun h => callsIn_wide.2 h⟩
theorem openRound (P : Program) (l : Nat) : Open (Fence.wide.inRound l) P := ⟨fun _ => trivial, rfl, fun h => CallsIn.inRound l (callsIn_wide.2 h)⟩
def clsUpon (P : Program) (Cl : World → Prop) (w : World) (v : Value) : Result Next → Prop
  | .ok (.value u) w' => Cl w' ∧ u = v
  | .ok .skip w' => Cl w' ∧ v = undef
  | .ok (.enter f args) w' => w' = w ∧ Calls P f args w (fun e w'' => e = .returned v ∧ Cl w'')
  | _ => False
def clsAt (P : Program) (Cl : World → Prop) (o : Oper) (a : Act) (w : World) (v : Value) : Prop := clsUpon P Cl w v ((execOp a.eval o).run P w)
attribute [go_sem] clsAt clsUpon
theorem wpIn_of_cls (hF : Open F P) {o : Oper} {a : Act} {w : World} {v : Value} {K : Act → World → Prop} {Q : Exit → Act → World → Prop} (hdf : ∀ c, o.op ≠ .defer c) (h : clsAt P Cl o a w v) (hK : ∀ w', Cl w' → K (a.put o.dst v) w') : o.wpIn F n P a w K Q := by
  unfold clsAt at h
  unfold Oper.wpIn
  refine ⟨fun f _ => hF.fn f, ?_⟩
  rw [Oper.semAt_eq _ _ _ hdf]
  generalize (execOp a.eval o).run P w = r at *
  cases r with
  | ok n' w' =>
    cases n' <;> simp only [clsUpon] at h <;> simp only [Oper.uponIn]
    case value u =>
      obtain ⟨e1, e2⟩ := h
      rw [e2]
      exact hK _ e1
    case skip =>
      obtain ⟨e1, e2⟩ := h
      rw [← e2]
      exact hK _ e1
    case enter f args =>
      obtain ⟨e1, hc⟩ := h
      rw [e1]
      exact ⟨(fun h => by rw [hF.depth] at h; cases h), (hF.call hc).mono fun e w'' ⟨he, hw''⟩ => by subst he; exact hK _ hw''⟩
  | halt x w' => simp only [clsUpon] at h
def wpCls (P : Program) (ops : Array Oper) (Cl : World → Prop) (Q : Act → Prop) : List Oper → List Value → Act → Prop
  | _, [], a => Q a
  | o :: rest, c :: cs, a => (if Region.wanted o (yielded ops a.tmps) then ∀ w', Cl w' → clsAt P Cl o a w' c else c = undef) ∧ wpCls P ops Cl Q rest cs (a.put o.dst c)
  | [], _ :: _, _ => False
theorem wpCls_nil {Q : Act → Prop} {l : List Oper} {a : Act} (h : Q a) : wpCls P ops Cl Q l [] a := by cases l <;> exact h
theorem wpCls_step {Q : Act → Prop} {o : Oper} {rest : List Oper} {c : Value} {cs : List Value} {a : Act} (h1 : if Region.wanted o (yielded ops a.tmps) then ∀ w', Cl w' → clsAt P Cl o a w' c else c = undef) (h2 : wpCls P ops Cl Q rest cs (a.put o.dst c)) : wpCls P ops Cl Q (o :: rest) (c :: cs) a := ⟨h1, h2⟩
theorem wpCls_do {Q : Act → Prop} {o : Oper} {rest : List Oper} {c : Value} {cs : List Value} {a : Act} (hg : o.guard = none) (h1 : ∀ w', Cl w' → clsAt P Cl o a w' c) (h2 : wpCls P ops Cl Q rest cs (a.put o.dst c)) : wpCls P ops Cl Q (o :: rest) (c :: cs) a := by
  refine wpCls_step ?_ h2
  unfold Region.wanted
  rw [hg, if_pos rfl]
  exact h1
theorem wpCls_at {Q : Act → Prop} {V : Nat → Value} {cs0 : List Value} {a0 : Act} (hV : ∀ (k : Nat) (c : Value), cs0[k]? = some c → V k = c) :
    ∀ (cs : List Value) (k : Nat) (l : List Oper), (∀ j, l[j]? = ops[k + j]?) → (∀ j, cs[j]? = cs0[k + j]?) → k + cs.length = cs0.length → wpCls P ops Cl Q l cs (frameOf ops V (fun _ => true) a0 k) →
      (∀ j, k ≤ j → j < cs0.length → ∃ o, ops[j]? = some o ∧ if Region.wanted o (yielded ops (frameOf ops V (fun _ => true) a0 j).tmps) then ∀ w', Cl w' → clsAt P Cl o (frameOf ops V (fun _ => true) a0 j) w' (V j) else V j = undef) ∧ Q (frameOf ops V (fun _ => true) a0 cs0.length)
  | [], k, l, _, hh, hn, H => by
    have e : k = cs0.length := by simpa using hn
    subst e
    exact ⟨fun j hj hj2 => by omega, by cases l <;> exact H⟩
  | c :: cs, k, [], hl, hh, hn, H => H.elim
  | c :: cs, k, o :: l, hl, hh, hn, H => by
    have h0 : ops[k]? = some o := by simpa using (hl 0).symm
    have h1 : cs0[k]? = some c := by simpa using (hh 0).symm
    obtain ⟨H1, H2⟩ := H
    have e1 : frameOf ops V (fun _ => true) a0 (k + 1) = (frameOf ops V (fun _ => true) a0 k).put o.dst c := by
      rw [frameOf, if_pos rfl]; simp [dstOf, h0, hV k c h1]
    obtain ⟨g1, g2⟩ := wpCls_at hV cs (k + 1) l (fun j => by have := hl (j + 1); simpa [Nat.add_assoc, Nat.add_comm 1 j] using this) (fun j => by have := hh (j + 1); simpa [Nat.add_assoc, Nat.add_comm 1 j] using this) (by simp only [List.length_cons] at hn; omega) (by rw [e1]; exact H2)
    refine ⟨fun j hj hj2 => ?_, g2⟩
    rcases Nat.eq_or_lt_of_le hj with e | e
    · subst e
      exact ⟨o, h0, by rw [hV k c h1]; exact H1⟩
    · exact g1 j e hj2
theorem wpIn_region_cls {rid : Nat} {Q : Exit → Act → World → Prop} {a : Act} {w : World} {l : List Oper} (hF : Open F P) (m : Nat) (cs : List Value) (Cl : World → Prop) (hm : P.follows .mixedOrders = true) (hB : (stirB .any l.toArray m && noDefer l.toArray) = true) (hn : cs.length = m) (h0 : Cl { w with drawn := w.drawn + 1 })
    (h : wpCls P l.toArray Cl (fun a' => ∀ w', Cl w' → wpListIn F n P l.toArray Q (l.drop m) a' w') l cs a) : (Code.region rid l.toArray true).wpIn F n P Q a w := by
  rw [Bool.and_eq_true] at hB
  obtain ⟨hB, hnd⟩ := hB
  unfold stirB at hB
  simp only [Bool.and_eq_true, decide_eq_true_eq, List.all_eq_true, List.mem_range, Bool.or_eq_true] at hB
  obtain ⟨⟨hord, hnl⟩, htail⟩ := hB
  have H := ordered_of hord
  have hsz : l.toArray.size = l.length := by simp
  obtain ⟨V, hVd⟩ : ∃ V : Nat → Value, V = fun k => cs[k]?.getD undef := ⟨_, rfl⟩
  have hV : ∀ (k : Nat) (c : Value), cs[k]? = some c → V k = c := fun k c hk => by rw [hVd]; simp [hk]
  obtain ⟨key, fin⟩ := wpCls_at (P := P) (ops := l.toArray) (Cl := Cl) (a0 := a) hV cs 0 l (fun j => by simp) (fun j => by simp) (by omega) h
  rw [hn] at fin key
  have final : ∀ (listed : Array Bool) (w' : World), Cl w' → (∀ j, j < m → listed.getD j false = true) → (∀ j, m ≤ j → listed.getD j false = false) → wpListIn F n P l.toArray Q (l.drop m) (frameOf l.toArray V (fun k => listed.getD k false) a l.toArray.size) w' := by
    intro listed w' hc hall hno
    have e1 : frameOf l.toArray V (fun k => listed.getD k false) a m = frameOf l.toArray V (fun _ => true) a m := frameOf_congr m fun j hj => ⟨hall j hj, fun _ => rfl⟩
    have e2 : ∀ k, m ≤ k → frameOf l.toArray V (fun k => listed.getD k false) a k = frameOf l.toArray V (fun k => listed.getD k false) a m := by
      intro k
      induction k with
      | zero => intro hm'; obtain rfl : m = 0 := by omega
                rfl
      | succ k ih =>
        intro hm'
        rcases Nat.eq_or_lt_of_le hm' with e | e
        · rw [e]
        · rw [frameOf, ih (by omega), if_neg]; rw [hno k (by omega)]; exact Bool.false_ne_true
    rw [e2 _ hnl, e1]
    exact fin w' hc
  refine wpIn_region_any hm ?_
  refine wpAnyIn_inv (fun listed a' w' => ((∀ j, m ≤ j → listed.getD j false = false) ∧ a' = frameOf l.toArray V (fun k => listed.getD k false) a l.toArray.size ∧ Cl w') ∨
      ∃ k, m ≤ k ∧ (∀ j, j < k → listed.getD j false = true) ∧ (∀ j, k ≤ j → listed.getD j false = false) ∧ wpListIn F n P l.toArray Q (l.drop k) a' w') ?_ ?_ _ _ _ _ (left_le _ _) Shut.none (.inl ⟨fun j _ => ?_, ?_, h0⟩)
  · intro listed a' w' i hsh hI hr
    obtain ⟨hun, oi, hoi, _⟩ := mem_ready.1 hr
    have hi : i < l.toArray.size := (Array.getElem?_eq_some_iff.1 hoi).1
    have hil : i < listed.size := by rw [hsh.size]; exact hi
    have hunf := listed_both hun
    have hset : (listed.setIfInBounds i true).getD i false = true := set_same hil false
    have tailstep : ∀ k, m ≤ k → (∀ j, j < k → listed.getD j false = true) → (∀ j, k ≤ j → listed.getD j false = false) → m ≤ i → wpListIn F n P l.toArray Q (l.drop k) a' w' →
        wpOpIn F n P l.toArray Q i (fun a'' w'' => ((∀ j, m ≤ j → (listed.setIfInBounds i true).getD j false = false) ∧ a'' = frameOf l.toArray V (fun k => (listed.setIfInBounds i true).getD k false) a l.toArray.size ∧ Cl w'') ∨
          ∃ k, m ≤ k ∧ (∀ j, j < k → (listed.setIfInBounds i true).getD j false = true) ∧ (∀ j, k ≤ j → (listed.setIfInBounds i true).getD j false = false) ∧ wpListIn F n P l.toArray Q (l.drop k) a'' w'') a' w' := by
      intro k hnk hall hno hni hw
      have him : i = k := by
        rcases Nat.lt_trichotomy i k with h' | h' | h'
        · rw [hall i h'] at hunf; cases hunf
        · exact h'
        · have h1 := ((htail i hi).resolve_left (by omega)) k h'
          have h2 := reach_listed hsh 6 i k (fun j hj => waits_listed hr hj) h1
          rw [hno k (Nat.le_refl _)] at h2; cases h2
      subst him
      have hli : l[i]? = some oi := by simpa using hoi
      have hdrop : l.drop i = oi :: l.drop (i + 1) := by
        have hlt : i < l.length := by omega
        rw [List.drop_eq_getElem_cons hlt]
        congr 1
        rw [List.getElem?_eq_getElem hlt] at hli
        exact Option.some.inj hli
      rw [hdrop] at hw
      simp only [wpListIn] at hw
      have hall' : ∀ j, j < i + 1 → (listed.setIfInBounds i true).getD j false = true := fun j hj => by
        rcases Nat.lt_or_ge j i with h' | h'
        · rw [getD_set_ne false (by omega)]; exact hall j h'
        · obtain rfl : j = i := by omega
          exact hset
      have hno' : ∀ j, i + 1 ≤ j → (listed.setIfInBounds i true).getD j false = false := fun j hj => by
        rw [getD_set_ne false (by omega)]; exact hno j (by omega)
      unfold Go.wpOpIn
      simp only [hoi]
      split
      · rename_i hwt
        rw [if_pos hwt] at hw
        exact Oper.wpIn_mono (fun a'' w'' h'' => .inr ⟨i + 1, by omega, hall', hno', h''⟩) hw
      · rename_i hwt
        rw [if_neg hwt] at hw
        exact ⟨fun f _ => hF.fn f, .inr ⟨i + 1, by omega, hall', hno', by first | exact hw.2 | exact hw⟩⟩
    rcases hI with ⟨hno, rfl, hc⟩ | ⟨k, hnk, hall, hno, hw⟩
    · rcases Nat.lt_or_ge i m with hin | hin
      · obtain ⟨o', ho', hask⟩ := key i (Nat.zero_le _) hin
        obtain rfl : oi = o' := Option.some.inj (hoi.symm.trans ho')
        have hsee := H.sees (V := V) (V' := V) (M := fun _ => true) (a := a) hsh hoi hr (fun k _ hk => by cases hk) (fun _ _ => rfl)
        have hput : (frameOf l.toArray V (fun k => listed.getD k false) a l.toArray.size).put oi.dst (V i) = frameOf l.toArray V (fun k => (listed.setIfInBounds i true).getD k false) a l.toArray.size := by
          have e1 : dstOf l.toArray i = oi.dst := by simp [dstOf, hoi]
          rw [H.frame_put hsh hi hun, e1]
        have hnext : ∀ w'', Cl w'' → ((∀ j, m ≤ j → (listed.setIfInBounds i true).getD j false = false) ∧ (frameOf l.toArray V (fun k => listed.getD k false) a l.toArray.size).put oi.dst (V i) = frameOf l.toArray V (fun k => (listed.setIfInBounds i true).getD k false) a l.toArray.size ∧ Cl w'') := fun w'' hc' =>
          ⟨fun j hj => by rw [getD_set_ne false (by omega)]; exact hno j hj, hput, hc'⟩
        unfold Go.wpOpIn
        simp only [hoi]
        rw [wanted_of_slots hsee]
        by_cases hwt : Region.wanted oi (yielded l.toArray (frameOf l.toArray V (fun _ => true) a i).tmps) = true
        · rw [if_pos hwt] at hask
          rw [if_pos hwt]
          refine wpIn_of_cls hF (noDefer_spec hnd hoi) (v := V i) ?_ fun w'' hc' => .inl (hnext w'' hc')
          have h1 := hask w' hc
          unfold clsAt at h1 ⊢
          rwa [exec_of_slots (ops := l.toArray) (fun cs b => Region.noSelect_spec H.sel i oi cs b hoi) hsee]
        · rw [if_neg hwt] at hask
          rw [if_neg hwt]
          refine ⟨fun f _ => hF.fn f, .inl ?_⟩
          rw [← hask]
          exact hnext w' hc
      · have hall : ∀ j, j < m → listed.getD j false = true := fun j hj => reach_listed hsh 6 i j (fun k hk => waits_listed hr hk) (((htail i hi).resolve_left (by omega)) j (by omega))
        exact tailstep m (Nat.le_refl _) hall hno hin (final listed w' hc hall hno)
    · have hni : m ≤ i := by
        rcases Nat.lt_or_ge i m with h' | h'
        · rw [hall i (by omega)] at hunf; cases hunf
        · exact h'
      exact tailstep k hnk hall hno hni hw
  · intro listed a' w' hsh hI hr
    have hall := H.all hsh hr
    rcases hI with ⟨hno, rfl, hc⟩ | ⟨k, hnk, hall', hno, hw⟩
    · have hnn : m = l.length := by
        rcases Nat.lt_or_ge m l.length with h' | h'
        · have := hall m (by omega); rw [hno m (Nat.le_refl _)] at this; cases this
        · omega
      have := final listed w' hc (fun j hj => hall j (by omega)) hno
      rw [hnn, List.drop_length] at this
      exact this
    · have hmm : l.length ≤ k := by
        rcases Nat.lt_or_ge k l.length with h' | h'
        · have := hall k (by omega); rw [hno k (Nat.le_refl _)] at this; cases this
        · exact h'
      rw [List.drop_eq_nil_of_le hmm] at hw
      exact hw
  · rcases Nat.lt_or_ge j l.length with h' | h' <;> simp [h']
  · refine (frameOf_none (fun k => ?_) _).symm
    rcases Nat.lt_or_ge k l.length with h' | h' <;> simp [h']
end
end Go.Proofs.YtchhodikgllgnaaDoor
/- A map of worlds to numbers, as the package quarrels keeps it: look-up and store. No condition. -/
namespace Go.Proofs.YtchhodikgllgnaaDoor
open Go.RowKit Go.Sort Go.Shelf
/-- what each entry of the map says -/
def DepOk (t : Qt) (es : Array MapEntry) : Prop := ∀ e, e ∈ es.toList → ∃ s : Nat, s < 64 ∧ e.key = .int .u64 (s : Int) ∧ e.val = .int .i64 (t.depth (bitsL s))
def DepMap (w : World) (mp : Nat) (t : Qt) : Prop := ∃ es clock, w.heap[mp]? = some (.map es clock) ∧ DepOk t es
theorem DepMap.lt {w : World} {mp : Nat} {t : Qt} (h : DepMap w mp t) : mp < w.heap.size := by
  obtain ⟨es, clock, h1, _⟩ := h
  exact (Array.getElem?_eq_some_iff.1 h1).1
theorem DepMap.mono {w w' : World} {mp : Nat} {t : Qt} (h : DepMap w mp t) (hb : Below w.heap.size w w') : DepMap w' mp t := by
  obtain ⟨es, clock, h1, h2⟩ := h
  exact ⟨es, clock, (hb.block mp (Array.getElem?_eq_some_iff.1 h1).1).trans h1, h2⟩
theorem DepMap.empty {w : World} {mp : Nat} {t : Qt} (h : w.heap[mp]? = some (.map #[] 0)) : DepMap w mp t := ⟨_, _, h, fun e he => by simp at he⟩
theorem findNow_dep {t : Qt} {s : Nat} : ∀ (es : List MapEntry) (i : Nat), (∀ e, e ∈ es → ∃ s : Nat, s < 64 ∧ e.key = .int .u64 (s : Int) ∧ e.val = .int .i64 (t.depth (bitsL s))) →
    Instr.findNow (.int .u64) (.int .u64 (s : Int)) es i = some none ∨ ∃ j e, i ≤ j ∧ es[j - i]? = some e ∧ e.key = .int .u64 (s : Int) ∧ Instr.findNow (.int .u64) (.int .u64 (s : Int)) es i = some (some (j, .int .i64 (t.depth (bitsL s))))
  | [], i, _ => .inl rfl
  | e :: es, i, h => by
    obtain ⟨s', h1, h2, h3⟩ := h e (by simp)
    by_cases hs : s = s'
    · subst hs
      refine .inr ⟨i, e, Nat.le_refl _, by simp, h2, ?_⟩
      simp [Instr.findNow, Instr.sameNow, h2, h3]
    · have hne : ((s : Int) == (s' : Int)) = false := by simp; omega
      rcases findNow_dep es (i + 1) (fun e he => h e (by simp [he])) with hf | ⟨j, e', hj, he, hk, hf⟩
      · left
        unfold Instr.findNow
        rw [h2]
        simp only [Instr.sameNow, if_true, hne]
        exact hf
      · right
        refine ⟨j, e', by omega, ?_, hk, ?_⟩
        · rw [show j - i = (j - (i + 1)) + 1 by omega, List.getElem?_cons_succ]
          exact he
        · unfold Instr.findNow
          rw [h2]
          simp only [Instr.sameNow, if_true, hne]
          exact hf
theorem getM {w : World} {r : Nat} {es : Array MapEntry} {clock : Nat} (h : w.heap[r]? = some (.map es clock)) : (getObj r).run Tryd.prog w = .ok (.map es clock) w := by simp [getObj, Sem.run, h]
theorem setM {w : World} {r : Nat} {es : Array MapEntry} {clock : Nat} (o : Obj) (h : w.heap[r]? = some (.map es clock)) : (setObj r o).run Tryd.prog w = .ok () { w with heap := w.heap.setIfInBounds r o } := by simp [setObj, Sem.run, h]
theorem checkKey_u64 (b : Bool) (s : Int) (w : World) : (Instr.checkKey b 10000 93 (.int .u64 s)).run Tryd.prog w = .ok () w := by
  rw [show (10000 : Nat) = 9999 + 1 from rfl]
  unfold Instr.checkKey
  simp [run_underlying Tryd.underlying93, Result.andThen]
theorem findKey_dep {r : Option (Nat × Value)} {s : Nat} {es : List MapEntry} (h : Instr.findNow (.int .u64) (.int .u64 (s : Int)) es 0 = some r) (w : World) : (Instr.findKey 93 (.int .u64 (s : Int)) es).run Tryd.prog w = .ok r w := by
  unfold Instr.findKey
  simp [run_underlying Tryd.underlying93, h, Result.andThen]
/-- a look-up -/
theorem lookup_dep {t : Qt} {es : Array MapEntry} (he : DepOk t es) (s mp clock : Nat) : ∃ (v : Int) (b : Bool), (∀ w : World, w.heap[mp]? = some (.map es clock) → (Instr.lookup 96 (.map (some mp)) (.int .u64 (s : Int)) true).run Tryd.prog w = .ok (.tuple #[.int .i64 v, .bool b]) w) ∧ (b = true → v = t.depth (bitsL s)) := by
  rcases findNow_dep (s := s) es.toList 0 he with hf | ⟨j, e, _, _, _, hf⟩
  · refine ⟨0, false, fun w hw => ?_, fun h => by cases h⟩
    unfold Instr.lookup
    simp [run_underlying Tryd.underlying96, getM hw, checkKey_u64, findKey_dep hf, Tryd.zeroValue3, Result.andThen]
  · refine ⟨t.depth (bitsL s), true, fun w hw => ?_, fun _ => rfl⟩
    unfold Instr.lookup
    simp [run_underlying Tryd.underlying96, getM hw, checkKey_u64, findKey_dep hf, Result.andThen]
/-- a store -/
theorem update_dep {t : Qt} {w : World} {mp : Nat} (h : DepMap w mp t) {s : Nat} (hs : s < 64) {d : Int} (hd : d = t.depth (bitsL s)) : ∃ w', (Instr.mapUpdate 96 (.map (some mp)) (.int .u64 (s : Int)) (.int .i64 d)).run Tryd.prog w = .ok () w' ∧ w.grownBy w' (some mp) ∧ w'.heap.size = w.heap.size ∧ DepMap w' mp t := by
  obtain ⟨es, clock, hw, he⟩ := h
  have hlt := (Array.getElem?_eq_some_iff.1 hw).1
  have grown : ∀ o : Obj, w.grownBy { w with heap := w.heap.setIfInBounds mp o } (some mp) := fun o => ⟨rfl, rfl, rfl, by simp, fun k hk hne => by
    show (w.heap.setIfInBounds mp o)[k]? = _
    rw [Array.getElem?_setIfInBounds_ne (fun e => hne (by rw [e]))]⟩
  have at_ : ∀ o : Obj, ({ w with heap := w.heap.setIfInBounds mp o } : World).heap[mp]? = some o := fun o => by
    show (w.heap.setIfInBounds mp o)[mp]? = _
    rw [Array.getElem?_setIfInBounds_self_of_lt hlt]
  rcases findNow_dep (s := s) es.toList 0 he with hf | ⟨j, e, _, hj, hk, hf⟩
  · refine ⟨{ w with heap := w.heap.setIfInBounds mp (.map (es.push { key := .int .u64 s, val := .int .i64 d, born := clock }) (clock + 1)) }, ?_, grown _, by simp, ⟨_, _, at_ _, fun e he' => ?_⟩⟩
    · unfold Instr.mapUpdate
      simp [run_underlying Tryd.underlying96, getM hw, checkKey_u64, findKey_dep hf, setM _ hw, Result.andThen]
    · rw [Array.toList_push, List.mem_append] at he'
      rcases he' with he' | he'
      · exact he e he'
      · rw [List.mem_singleton.1 he']
        exact ⟨s, hs, rfl, by rw [hd]⟩
  · have hj' : es[j]? = some e := by simpa using hj
    refine ⟨{ w with heap := w.heap.setIfInBounds mp (.map (es.modify j fun e => { e with key := .int .u64 s, val := .int .i64 d }) clock) }, ?_, grown _, by simp, ⟨_, _, at_ _, fun e' he' => ?_⟩⟩
    · unfold Instr.mapUpdate
      simp [run_underlying Tryd.underlying96, getM hw, checkKey_u64, findKey_dep hf, setM _ hw, Result.andThen, Instr.keyThatStays, Instr.sameBits, hj', hk]
    · obtain ⟨i, hi, hie⟩ := List.getElem_of_mem he'
      have : (es.modify j fun e => { e with key := .int .u64 s, val := .int .i64 d })[i]? = some e' := by
        rw [← Array.getElem?_toList]
        exact List.getElem?_eq_some_iff.2 ⟨hi, hie⟩
      rw [Array.getElem?_modify] at this
      split at this
      · obtain ⟨e0, _, e1⟩ := Option.map_eq_some_iff.1 this
        rw [← e1]
        exact ⟨s, hs, rfl, by rw [hd]⟩
      · exact he e' (Array.mem_toList_iff.2 (Array.mem_of_getElem? this))
end Go.Proofs.YtchhodikgllgnaaDoor
/- The walk of after of the package quarrels, by the contract of enough. Condition: a valid town. -/
namespace Go.Proofs.YtchhodikgllgnaaDoor
open Go.RowKit Go.Sort Go.Shelf
theorem CourtAt.kept {w w' : World} {C : Nat} {Aw Af : Option Addr} {cw cf : Nat} {t : Qt} {s mp : Nat} (h : CourtAt w C Aw Af cw cf t s mp) (hg : w.grownBy w' (some mp)) (hne : C ≠ mp) : CourtAt w' C Aw Af cw cf t s mp := by
  have hb := hg.block C h.box.lt (fun e => hne (Option.some.inj e))
  exact ⟨⟨Nat.lt_of_lt_of_le h.box.lt hg.size, fun i v hi => (cell_of_heap hb i).trans (h.box.cell i v hi)⟩, fun o => (frozen_of_heap hb o).trans (h.frz o)⟩
/-- a court at work, its map right -/
structure DEnv (W0 w : World) (C mp s0 : Nat) (Aw Af : Option Addr) (cw cf : Nat) (t : Qt) : Prop where
  below : Below W0.heap.size W0 w
  court : CourtAt w C Aw Af cw cf t s0 mp
  dep : DepMap w mp t
  town : QAt W0 Aw Af t
  tab : TabAt W0
  base : W0.heap.size ≤ mp
  ne : C ≠ mp
theorem DEnv.step {W0 w w' : World} {C mp s0 : Nat} {Aw Af : Option Addr} {cw cf : Nat} {t : Qt} (h : DEnv W0 w C mp s0 Aw Af cw cf t) (hg : w.grownBy w' (some mp)) (hd : DepMap w' mp t) : DEnv W0 w' C mp s0 Aw Af cw cf t :=
  ⟨h.below.grown hg h.below.size (fun k e => by injection e with e; rw [← e]; exact h.base), h.court.kept hg h.ne, hd, h.town, h.tab, h.base, h.ne⟩
theorem DEnv.mono {W0 w w' : World} {C mp s0 : Nat} {Aw Af : Option Addr} {cw cf : Nat} {t : Qt} (h : DEnv W0 w C mp s0 Aw Af cw cf t) (hb : Below w.heap.size w w') : DEnv W0 w' C mp s0 Aw Af cw cf t :=
  h.step (grown_below hb) (h.dep.mono hb)
theorem behM_le (t : Qt) (x : Tp) (s f : Nat) : behM t x s f ≤ s := by
  have e : behM t x s f &&& s = behM t x s f := by
    apply Nat.eq_of_testBit_eq
    intro j
    rw [Nat.testBit_and]
    cases h : (behM t x s f).testBit j with
    | false => rfl
    | true =>
      unfold behM at h
      rw [maskL_bit, List.any_eq_true] at h
      obtain ⟨y, hy, he⟩ := h
      obtain ⟨i, _, hb, rfl⟩ := bitsL_mem.1 (List.mem_filter.1 hy).1
      simp at he
      rw [← he, hb]
      rfl
  rw [← e]
  exact Nat.and_le_right
theorem behM_sub {t : Qt} {x : Tp} {s f : Nat} (h : ∀ i : Nat, s.testBit i = true → i < t.nw) (i : Nat) (hi : (behM t x s f).testBit i = true) : i < t.nw := by
  unfold behM at hi
  rw [maskL_bit, List.any_eq_true] at hi
  obtain ⟨y, hy, he⟩ := hi
  obtain ⟨j, _, hb, rfl⟩ := bitsL_mem.1 (List.mem_filter.1 hy).1
  simp at he
  rw [← he]
  exact h j hb
/-- the contract of enough -/
def EnoughAt (W0 : World) (C mp s0 : Nat) (Aw Af : Option Addr) (cw cf : Nat) (t : Qt) (s : Nat) : Prop :=
  ∀ w, DEnv W0 w C mp s0 Aw Af cw cf t → Calls Tryd.prog 93 #[.pointer (some ⟨C, 0, none⟩), .int .u64 s] w fun e w' => e = .returned (.int .i64 (t.depth (bitsL s))) ∧ w.grownBy w' (some mp) ∧ DepMap w' mp t
theorem grownR (w : World) (r : Option Nat) : w.grownBy w r := ⟨rfl, rfl, rfl, Nat.le_refl _, fun _ _ _ => rfl⟩
set_option maxHeartbeats 4000000 in
set_option maxRecDepth 100000 in
theorem after_any {W0 : World} {C mp s0 : Nat} {Aw Af : Option Addr} {cw cf : Nat} {t : Qt} {s : Nat} (ok : t.Ok) (h64 : s < 64) (hsub : ∀ i : Nat, s.testBit i = true → i < t.nw) (IH : ∀ s', s' < s → (∀ i : Nat, s'.testBit i = true → i < t.nw) → EnoughAt W0 C mp s0 Aw Af cw cf t s')
    (p q : Nat) (hp : (p : Int) < t.wells) (hq : (q : Int) < t.wells) (w : World) (hE : DEnv W0 w C mp s0 Aw Af cw cf t) :
    Calls Tryd.prog 95 #[.pointer (some ⟨C, 0, none⟩), .int .u64 s, .agg #[.int .i64 p, .int .i64 q]] w fun e w' => e = .returned (.int .i64 (t.afterP (p, q) (bitsL s))) ∧ w.grownBy w' (some mp) ∧ DepMap w' mp t := by
  have hb0 := bAlloc (Below.refl w.heap.size w) (.cells #[.int .i64 p, .int .i64 q] 27)
  have HE := Lib.hid hE
  have HB := Lib.hid hb0
  have HE0 := Lib.hid (hE.mono hb0)
  have HIH := Lib.hid IH
  have HSUB := Lib.hid hsub
  have HBC := Lib.hid (behind_any Aw Af cw cf C mp s0 s t p q _ HE0.out.court ok h64 hsub hp hq (HE0.out.town.mono HE0.out.below) (HE0.out.tab.mono HE0.out.below))
  clear hE hb0 IH hsub ok hp hq
  go_enter Tryd.func95, Tryd.ntmps95
  go_wp2_with fail
  refine HBC.out.mono ?_
  rintro e w1 ⟨rfl, hb1⟩
  have HB1 := Lib.hid (bTrans HB.out hb1)
  have HE1 := Lib.hid (HE0.out.mono hb1)
  obtain ⟨ba, hba⟩ : ∃ ba, behA t (p, q) s = ba := ⟨_, rfl⟩
  have HBA := Lib.hid hba
  rw [show behV t (p, q) s = .agg ba by rw [← hba]; rfl]
  clear hba hb1
  go_wp2_with fail
  go_loopw [7, 14] (fun m i' wr => ∃ k : Nat, i' = .int .i64 k ∧ k ≤ 10 ∧ m = .int .i64 (maxTo (fun f => t.depth (t.shown (p, q) (bitsL s) (f : Int))) k) ∧ (∀ f, f < k → (t.shown (p, q) (bitsL s) (f : Int) == bitsL s) = false) ∧ w1.grownBy wr (some mp) ∧ DepMap wr mp t) (fun _ i _ => 10 - (intOf i).toNat)
  case atStart => exact ⟨0, rfl, by omega, rfl, fun f hf => absurd hf (Nat.not_lt_zero _), grownR _ _, HE1.out.dep⟩
  case round =>
    obtain ⟨k, rfl, hk, rfl, hno, hgr, hdp⟩ := hrel
    have HNO := Lib.hid hno
    have HGR := Lib.hid hgr
    have HDP := Lib.hid hdp
    obtain ⟨m, hm⟩ : ∃ m, maxTo (fun f => t.depth (t.shown (p, q) (bitsL s) (f : Int))) k = m := ⟨_, rfl⟩
    rw [hm]
    have HM := Lib.hid hm
    clear hm hno hgr hdp
    by_cases hlt : k < 10
    · have hget := behA_get t (p, q) s hlt
      rw [HBA.out] at hget
      obtain ⟨u, hu⟩ : ∃ u, behM t (p, q) s k = u := ⟨_, rfl⟩
      rw [hu] at hget
      have hix := index10 ba k u hget hlt wr
      have k1 : (k : Int) < 10 := by omega
      have k0 : (0 : Int) ≤ (k : Int) := by omega
      by_cases hus : u = s
      · have g0 : ((u : Int) == (s : Int)) = true := by simp [hus]
        have HZ := Lib.hid (show t.afterP (p, q) (bitsL s) = 1024 by
          unfold Qt.afterP
          rw [if_pos (anyB_true.2 ⟨k, hlt, by
            have := (shown_same t (p, q) h64 (k : Int)).1 (hu.trans hus)
            rw [this]; simp⟩)])
        clear hu hget hus
        go_wp2_with fail
        go_ret
        exact ⟨by rw [HZ.out]; rfl, grown_trans (grown_below HB1.out) HGR.out, HDP.out⟩
      · have g0 : ((u : Int) == (s : Int)) = false := by simp; omega
        have hus2 : u < s := by have := behM_le t (p, q) s k; omega
        obtain ⟨d, hd⟩ : ∃ d, t.depth (bitsL u) = d := ⟨_, rfl⟩
        have HCC := Lib.hid (hd ▸ HIH.out u hus2 (hu ▸ behM_sub HSUB.out) wr (HE1.out.step HGR.out HDP.out) : Calls Tryd.prog 93 #[.pointer (some ⟨C, 0, none⟩), .int .u64 u] wr fun e w' => e = .returned (.int .i64 d) ∧ wr.grownBy w' (some mp) ∧ DepMap w' mp t)
        have HN2 := Lib.hid (show ∀ f, f < k + 1 → (t.shown (p, q) (bitsL s) (f : Int) == bitsL s) = false from fun f hf => by
          rcases Nat.lt_or_ge f k with h1 | h1
          · exact HNO.out f h1
          · obtain rfl : f = k := by omega
            cases h2 : t.shown (p, q) (bitsL s) (f : Int) == bitsL s with
            | false => rfl
            | true => exact absurd (hu.symm.trans ((shown_same t (p, q) h64 (f : Int)).2 (eq_of_beq h2))) hus)
        obtain ⟨m2, hm2⟩ : ∃ m2, (if m < d then d else m) = m2 := ⟨_, rfl⟩
        have HS := Lib.hid (show maxTo (fun f => t.depth (t.shown (p, q) (bitsL s) (f : Int))) (k + 1) = m2 by
          show max (maxTo _ k) _ = _
          rw [HM.out]
          show max m (t.depth (t.shown (p, q) (bitsL s) (k : Int))) = m2
          rw [← bits_shown, show maskL (t.shown (p, q) (bitsL s) (k : Int)) = u from hu, hd, ← hm2]
          split <;> omega)
        clear hu hget hus hus2 hd
        go_wp2_with fail
        refine HCC.out.mono ?_
        rintro e w4 ⟨rfl, hg4, hd4⟩
        have HG4 := Lib.hid (grown_trans HGR.out hg4)
        have HD4 := Lib.hid hd4
        clear hg4 hd4
        go_wp2_with fail
        go_roundw
        case rel =>
          first
          | exact ⟨k + 1, by go_num, by omega, by rw [HS.out], HN2.out, HG4.out, HD4.out⟩
          | ((repeat apply Exists.intro)
             refine ⟨⟨k + 1, ?_, by omega, by rw [HS.out], HN2.out, HG4.out, HD4.out⟩, rfl⟩
             go_num)
        case measure => simp [intOf]; omega
    · obtain rfl : k = 10 := by omega
      have HZ := Lib.hid (show t.afterP (p, q) (bitsL s) = m by
        unfold Qt.afterP
        rw [anyB_false.2 HNO.out]
        exact HM.out)
      go_wp2_with fail
      go_ret
      exact ⟨by rw [HZ.out]; rfl, grown_trans (grown_below HB1.out) HGR.out, HDP.out⟩
end Go.Proofs.YtchhodikgllgnaaDoor
