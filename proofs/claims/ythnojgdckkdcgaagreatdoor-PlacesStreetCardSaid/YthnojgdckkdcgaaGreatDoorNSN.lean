/- Parts joined: what all claims of this seat need. -/
import Derived.RangeFuncNested
import Derived.RangeFuncBound
import Derived.RangeFuncCalls
import Derived.RangeFuncLeaves
import Derived.Shelf.Abstract
import Derived.Shelf.RegionOpen
import Derived.OwnWalkIn
import Derived.TacticsInMore
import Derived.LoopNIn
import Derived.LoopIn
import Derived.Test.YthnojgdckkdcgaaGreatDoorNSE
import Derived.Test.YthnojgdckkdcgaaGreatDoorNSM
set_option linter.unusedSimpArgs false
set_option linter.unusedVariables false
namespace Go.Proofs.YthnojgdckkdcgaaGreatDoor
open Go.RowKit Go.Sort Go.Shelf
section
variable {F : Fence} {n : Nat} {P : Program} {w : World}
/-- the contract of an iterator that is a method's value -/
def SeqC {α : Type} (F : Fence) (n : Nat) (P : Program) (gf : Nat) (bnd lb : Array Value) (encs : α → Array Value) (Kp : World → World → Prop) (S Sp : List α → Prop) (N : List α → α → Prop) (w : World) : Prop :=
  ∀ (l : Nat) (J Jx : List α → World → Prop) (W : World), Below w.heap.size w W → OwnFrom W.heap.size J → OwnFrom W.heap.size Jx →
    (∀ pre x W1, J pre W1 → N pre x → YieldAt F (n - 1) P l (encs x) W1 fun e W' => (e = .returned (.bool true) ∧ J (pre ++ [x]) W' ∧ Kp W1 W' ∧ KeepsFrom W.heap.size W1 W') ∨ (e = .returned (.bool false) ∧ Jx (pre ++ [x]) W' ∧ KeepsFrom W.heap.size W1 W')) →
    J [] W → CallsIn F n P gf (bnd ++ #[.func (.yield l) #[] #[]] ++ lb) W fun e W' => (∃ v, e = .returned v) ∧ ((∃ xs, S xs ∧ J xs W') ∨ (∃ pre, Sp pre ∧ Jx pre W'))
theorem wpIn_range_capsH {α : Type} {g : Operand} {ps : Array Tmp} {assign body : Code} {Q : Exit → Act → World → Prop} {a : Act}
    (hro : F.round = none) (h1 : 1 ≤ n) {gf : Nat} {bnd lb : Array Value} (hg : a.eval g = .func (.func gf) bnd lb) (hFg : F.fn gf) (eg : ∀ args w, (callFunc gf args).run P w = .ok (.enter gf args) w)
    {encs : α → Array Value} {Kp : World → World → Prop} {S Sp : List α → Prop} {N : List α → α → Prop} (hseq : SeqC F (n - 1) P gf bnd lb encs Kp S Sp N w)
    (hKt : ∀ {A B C : World}, Kp A B → Kp B C → Kp A C) (hKb : ∀ (W : World) (l : Nat) (o o' : Obj), w.heap.size ≤ l → W.heap[l]? = some o → o.isCells = false → Kp W (W.putObj l o')) (hps : ∀ x, (encs x).size = ps.size)
    (I : List α → World → Prop) (Ix : Code → List α → World → Prop) (hI : OwnFrom w.heap.size I) (hIx : ∀ c, OwnFrom w.heap.size (Ix c)) (h0 : I [] w) (Ax : α → Act → World → Prop) (hAx : ∀ x a', OwnFrom w.heap.size (fun (_ : Unit) W => Ax x a' W))
    (hassign : ∀ (l : Nat) (pre : List α) (x : α) (W : World) (K : Act → World → Prop), w.heap.size ≤ W.heap.size → I pre W → (∀ a' W', KeepsFrom w.heap.size W W' → Kp W W' → I pre W' → Ax x a' W' → K a' W') →
      assign.wpIn (F.inRound l) (n - 1 - 1) P (Exit.then K (fun _ _ _ => False)) { tmps := (ps.zip (encs x)).foldl (fun t (p, v) => t.setIfInBounds p v) a.tmps, defers := [] } W)
    (hbody : ∀ (l : Nat) (pre : List α) (x : α) (a' : Act) (W : World), w.heap.size ≤ W.heap.size → (∃ r, W.heap[l]? = some (.loop r)) → I pre W → Ax x a' W → N pre x → body.wpIn (F.inRound l) (n - 1 - 1) P (ownPostG w.heap.size Kp I Ix (pre ++ [x]) W) a' W)
    (hdone : ∀ (D : Nat) (xs : List α) (W : World), w.heap.size ≤ D → S xs → I xs W → W.heap[D]? = some (.deferred (some [])) → Q .normal { a with defers := { target := .collected D, args := #[] } :: a.defers } W)
    (hstop : ∀ (D : Nat) (c : Code) (pre : List α) (W : World), w.heap.size ≤ D → Sp pre → Ix c pre W → W.heap[D]? = some (.deferred (some [])) → c.wpIn F n P Q { a with defers := { target := .collected D, args := #[] } :: a.defers } W) :
    (Code.rangeFunc g ps assign body).wpIn F n P Q a w := by
  refine wpIn_rangeFunc fun fn hfn => ?_
  rw [hro]
  obtain ⟨rec, hrec⟩ : ∃ rec : LoopState → Option Code → Loop, rec = fun st pe => { state := st, pending := pe, fn, tmps := a.tmps, params := ps, assign, body, defers := w.heap.size } := ⟨_, rfl⟩
  obtain ⟨W1, hW1⟩ : ∃ W1, (w.alloc (.deferred (some []))).alloc (.loop (rec .ready none)) = W1 := ⟨_, rfl⟩
  have hL1 : W1.heap[w.heap.size + 1]? = some (.loop (rec .ready none)) := by
    rw [← hW1]; have := World.alloc_heap_new (w.alloc (.deferred (some []))) (.loop (rec .ready none)); rwa [World.size_alloc] at this
  have hK1 : W1.heap[w.heap.size]? = some (.deferred (some [])) := by
    rw [← hW1]; exact (Below.heap_alloc _ _ _ (by simp)).trans (World.alloc_heap_new w _)
  have hI1 : I [] W1 := by rw [← hW1]; exact hI.alloc _ (hI.alloc _ h0)
  have hb1 : Below w.heap.size w W1 := by rw [← hW1]; exact bAlloc (bAlloc (Below.refl _ _) _) _
  refine ⟨w.heap.size + 1, [{ target := .collected w.heap.size, args := #[] }], W1, { target := .fn (.func gf) lb, args := bnd ++ #[.func (.yield (w.heap.size + 1)) #[] #[]] }, W1, gf,
    bnd ++ #[.func (.yield (w.heap.size + 1)) #[] #[]] ++ lb, W1, ?_, ?_, ?_, ?_, fun _ => h1, ?_⟩
  · rw [← hW1, hrec]; exact run_enterLoop_outer _ _ _ _ _
  · simp only [resolve, hg]
    simp [go_sem]
  · intro f' hf'; simp [Target.leads] at hf'; subst hf'; exact hFg
  · simp [invoke, go_sem, eg]
  · have hz1 : W1.heap.size = w.heap.size + 1 + 1 := by rw [← hW1]; simp
    have hnw : ∀ {A B : World} {row : Option Nat}, (∀ r, row = some r → W1.heap.size ≤ r ∧ ∃ o : Obj, A.heap[r]? = some o ∧ o.isCells = false) → (∀ r, row = some r → w.heap.size ≤ r ∧ ∃ o : Obj, A.heap[r]? = some o ∧ o.isCells = false) :=
      fun hr r e => by obtain ⟨hB, ho⟩ := hr r e; exact ⟨by omega, ho⟩
    have hkp : ∀ {A B : World} {row : Option Nat} {k : Nat} {o : Obj}, A.grownBy B row → (∀ r, row = some r → W1.heap.size ≤ r ∧ ∃ o : Obj, A.heap[r]? = some o ∧ o.isCells = false) → k < W1.heap.size → A.heap[k]? = some o → B.heap[k]? = some o :=
      fun hg' hr hk ho => (hg'.block _ (Array.getElem?_eq_some_iff.1 ho).1 (fun e => by have := (hr _ e.symm).1; omega)).trans ho
    refine (hseq (w.heap.size + 1)
      (fun pre W => I pre W ∧ W.heap[w.heap.size + 1]? = some (.loop (rec .ready none)) ∧ W.heap[w.heap.size]? = some (.deferred (some [])))
      (fun pre W => ∃ c, Ix c pre W ∧ W.heap[w.heap.size + 1]? = some (.loop (rec .done (some c))) ∧ W.heap[w.heap.size]? = some (.deferred (some []))) W1 hb1
      (fun s A B row hs hg' hr => ⟨hI s A B row hs.1 hg' (hnw (B := B) hr), hkp hg' hr (by omega) hs.2.1, hkp hg' hr (by omega) hs.2.2⟩)
      (fun s A B row ⟨c, hc, hl, hk⟩ hg' hr => ⟨c, hIx c s A B row hc hg' (hnw (B := B) hr), hkp hg' hr (by omega) hl, hkp hg' hr (by omega) hk⟩) ?_ ⟨hI1, hL1, hK1⟩).mono ?_
    · rintro pre x W ⟨hi, hl, hk⟩ hlen
      have hlt : w.heap.size + 1 < W.heap.size := (Array.getElem?_eq_some_iff.1 hl).1
      have hy := run_yield (P := P) (args := encs x) hl (by rw [hrec]; exact hps x)
      rw [hrec] at hy
      refine ⟨fn, _, assign, body, hy, roundIn_of_wpIn hfn (hassign _ pre x W _ (by omega) hi ?_)⟩
      intro a' Wa hkfa hkpa hia hax
      have hla := hkfa.same _ _ (by omega) hl rfl
      have hka := hkfa.same _ _ (Nat.le_refl _) hk rfl
      have hlta : w.heap.size + 1 < Wa.heap.size := (Array.getElem?_eq_some_iff.1 hla).1
      refine ⟨_, run_beginRound hla (by rw [hrec]), ?_⟩
      obtain ⟨B, hBd⟩ : ∃ B, Wa.putObj (w.heap.size + 1) (.loop { rec .ready none with state := .busy }) = B := ⟨_, rfl⟩
      rw [hBd]
      have hl2 : B.heap[w.heap.size + 1]? = some (.loop { rec .ready none with state := .busy }) := by rw [← hBd]; exact World.putObj_heap_same hlta
      have hk2 : B.heap[w.heap.size]? = some (.deferred (some [])) := by rw [← hBd]; exact (World.putObj_heap_other (by omega)).trans hka
      have hw2 : Kp Wa B := by rw [← hBd]; exact hKb _ _ _ _ (by omega) hla rfl
      have hiB : I pre B := by rw [← hBd]; exact hI.putObj _ hia (by omega) hla rfl
      have haB : Ax x a' B := by rw [← hBd]; exact (hAx x a').putObj (s := ()) _ hax (by omega) hla rfl
      have hsB : w.heap.size ≤ B.heap.size := by have := (Array.getElem?_eq_some_iff.1 hl2).1; omega
      refine wpIn_mono (hbody _ pre x a' B hsB ⟨_, hl2⟩ hiB haB hlen) ?_
      have fin : ∀ (jump : Option Code) (W3 : World), KeepsFrom w.heap.size B W3 →
          (Instr.endRound (w.heap.size + 1) jump).run P W3 = .ok (.bool jump.isNone) (W3.putObj (w.heap.size + 1) (.loop (rec (if jump.isNone then .ready else .done) jump))) ∧
          W3.heap[w.heap.size + 1]? = some (.loop { rec .ready none with state := .busy }) ∧
          (W3.putObj (w.heap.size + 1) (.loop (rec (if jump.isNone then .ready else .done) jump))).heap[w.heap.size + 1]? = some (.loop (rec (if jump.isNone then .ready else .done) jump)) ∧
          (W3.putObj (w.heap.size + 1) (.loop (rec (if jump.isNone then .ready else .done) jump))).heap[w.heap.size]? = some (.deferred (some [])) := fun jump W3 hk3 => by
        have hl3 := hk3.same _ _ (by omega) hl2 rfl
        have := run_endRound (P := P) jump hl3
        rw [hrec] at this ⊢
        exact ⟨this, by rw [hrec] at hl3; exact hl3, World.putObj_heap_same (Array.getElem?_eq_some_iff.1 hl3).1, (World.putObj_heap_other (by omega)).trans (hk3.same _ _ (Nat.le_refl _) hk2 rfl)⟩
      rintro e a3 W3 hp
      have kput : ∀ (X : World) (o : Obj), KeepsFrom W1.heap.size X (X.putObj (w.heap.size + 1) o) := fun X o => ⟨by simp [World.putObj], fun k ob hB hk _ => (World.putObj_heap_other (by omega)).trans hk⟩
      have kall : ∀ (jump : Option Code), KeepsFrom w.heap.size B W3 → KeepsFrom W1.heap.size W (W3.putObj (w.heap.size + 1) (.loop (rec (if jump.isNone then .ready else .done) jump))) := fun jump hk3 =>
        KeepsFrom.trans (KeepsFrom.trans (KeepsFrom.trans ⟨hkfa.size, fun k o hB hk ho => hkfa.same k o (by omega) hk ho⟩ (by rw [← hBd]; exact kput _ _)) ⟨hk3.size, fun k o hB hk ho => hk3.same k o (by omega) hk ho⟩) (kput _ _)
      cases e with
      | normal =>
        obtain ⟨hk3, hkp3, hi3⟩ := hp
        obtain ⟨hr, hl3, hl4, hk4⟩ := fin none W3 hk3
        exact ⟨_, _, hr, .inl ⟨rfl, ⟨hI.putObj _ hi3 (by omega) hl3 rfl, hl4, hk4⟩, hKt hkpa (hKt (hKt hw2 hkp3) (hKb _ _ _ _ (by omega) hl3 rfl)), kall none hk3⟩⟩
      | ret =>
        obtain ⟨hr, hl3, hl4, hk4⟩ := fin (some .ret) W3 hp.1
        exact ⟨_, _, hr, .inr ⟨rfl, ⟨.ret, (hIx _).putObj _ hp.2 (by omega) hl3 rfl, hl4, hk4⟩, kall (some .ret) hp.1⟩⟩
      | exit id =>
        obtain ⟨hr, hl3, hl4, hk4⟩ := fin (some (.exit id)) W3 hp.1
        exact ⟨_, _, hr, .inr ⟨rfl, ⟨.exit id, (hIx _).putObj _ hp.2 (by omega) hl3 rfl, hl4, hk4⟩, kall (some (.exit id)) hp.1⟩⟩
      | goto t =>
        obtain ⟨hr, hl3, hl4, hk4⟩ := fin (some (.goto t)) W3 hp.1
        exact ⟨_, _, hr, .inr ⟨rfl, ⟨.goto t, (hIx _).putObj _ hp.2 (by omega) hl3 rfl, hl4, hk4⟩, kall (some (.goto t)) hp.1⟩⟩
      | panic ch => exact hp.elim
      | outgrown => exact hp.elim
    · rintro e W2 ⟨⟨v, rfl⟩, (⟨xs, hS, hi, hl, hk⟩ | ⟨pre, hSp, c, hi, hl, hk⟩)⟩
      · exact ⟨none, _, by have := run_endLoop (P := P) hl (by rw [hrec]; simp); rw [hrec] at this; exact this, hdone _ xs _ (Nat.le_refl _) hS (hI.putObj _ hi (by omega) hl rfl) ((World.putObj_heap_other (by omega)).trans hk)⟩
      · exact ⟨some c, _, by have := run_endLoop (P := P) hl (by rw [hrec]; simp); rw [hrec] at this; exact this, hstop _ c pre _ (Nat.le_refl _) hSp ((hIx c).putObj _ hi (by omega) hl rfl) ((World.putObj_heap_other (by omega)).trans hk)⟩
theorem wpIn_range_caps {α : Type} {g : Operand} {ps : Array Tmp} {assign body : Code} {Q : Exit → Act → World → Prop} {a : Act}
    (hro : F.round = none) (h1 : 1 ≤ n) {gf : Nat} {bnd lb : Array Value} (hg : a.eval g = .func (.func gf) bnd lb) (hFg : F.fn gf) (eg : ∀ args w, (callFunc gf args).run P w = .ok (.enter gf args) w)
    {encs : α → Array Value} {Kp : World → World → Prop} {S Sp : List α → Prop} {N : List α → α → Prop} (hseq : SeqC F (n - 1) P gf bnd lb encs Kp S Sp N w)
    (hKt : ∀ {A B C : World}, Kp A B → Kp B C → Kp A C) (hKb : ∀ (W : World) (l : Nat) (o o' : Obj), w.heap.size ≤ l → W.heap[l]? = some o → o.isCells = false → Kp W (W.putObj l o')) (hps : ∀ x, (encs x).size = ps.size)
    (I : List α → World → Prop) (Ix : Code → List α → World → Prop) (hI : OwnFrom w.heap.size I) (hIx : ∀ c, OwnFrom w.heap.size (Ix c)) (h0 : I [] w) (Ax : α → Act → World → Prop) (hAx : ∀ x a', OwnFrom w.heap.size (fun (_ : Unit) W => Ax x a' W))
    (hassign : ∀ (l : Nat) (pre : List α) (x : α) (W : World) (K : Act → World → Prop), w.heap.size ≤ W.heap.size → I pre W → (∀ a' W', KeepsFrom w.heap.size W W' → Kp W W' → I pre W' → Ax x a' W' → K a' W') →
      assign.wpIn (F.inRound l) (n - 1 - 1) P (Exit.then K (fun _ _ _ => False)) { tmps := (ps.zip (encs x)).foldl (fun t (p, v) => t.setIfInBounds p v) a.tmps, defers := [] } W)
    (hbody : ∀ (l : Nat) (pre : List α) (x : α) (a' : Act) (W : World), w.heap.size ≤ W.heap.size → I pre W → Ax x a' W → N pre x → body.wpIn (F.inRound l) (n - 1 - 1) P (ownPostG w.heap.size Kp I Ix (pre ++ [x]) W) a' W)
    (hdone : ∀ (D : Nat) (xs : List α) (W : World), w.heap.size ≤ D → S xs → I xs W → W.heap[D]? = some (.deferred (some [])) → Q .normal { a with defers := { target := .collected D, args := #[] } :: a.defers } W)
    (hstop : ∀ (D : Nat) (c : Code) (pre : List α) (W : World), w.heap.size ≤ D → Sp pre → Ix c pre W → W.heap[D]? = some (.deferred (some [])) → c.wpIn F n P Q { a with defers := { target := .collected D, args := #[] } :: a.defers } W) :
    (Code.rangeFunc g ps assign body).wpIn F n P Q a w :=
  wpIn_range_capsH hro h1 hg hFg eg hseq hKt hKb hps I Ix hI hIx h0 Ax hAx hassign (fun l pre x a' W hs _ hi ha hn => hbody l pre x a' W hs hi ha hn) hdone hstop
theorem wpIn_range_capsN {α : Type} {g : Operand} {ps : Array Tmp} {assign body : Code} {Q : Exit → Act → World → Prop} {a : Act}
    {l₀ : Nat} {r₀ : Loop} (hro : F.round = some l₀) (hl₀ : w.heap[l₀]? = some (.loop r₀)) (h1 : 1 ≤ n) {gf : Nat} {bnd lb : Array Value} (hg : a.eval g = .func (.func gf) bnd lb) (hFg : F.fn gf) (eg : ∀ args w, (callFunc gf args).run P w = .ok (.enter gf args) w)
    {encs : α → Array Value} {Kp : World → World → Prop} {S Sp : List α → Prop} {N : List α → α → Prop} (hseq : SeqC F (n - 1) P gf bnd lb encs Kp S Sp N w)
    (hKt : ∀ {A B C : World}, Kp A B → Kp B C → Kp A C) (hKb : ∀ (W : World) (l : Nat) (o o' : Obj), w.heap.size ≤ l → W.heap[l]? = some o → o.isCells = false → Kp W (W.putObj l o')) (hps : ∀ x, (encs x).size = ps.size)
    (I : List α → World → Prop) (Ix : Code → List α → World → Prop) (hI : OwnFrom w.heap.size I) (hIx : ∀ c, OwnFrom w.heap.size (Ix c)) (h0 : I [] w) (Ax : α → Act → World → Prop) (hAx : ∀ x a', OwnFrom w.heap.size (fun (_ : Unit) W => Ax x a' W))
    (hassign : ∀ (l : Nat) (pre : List α) (x : α) (W : World) (K : Act → World → Prop), w.heap.size ≤ W.heap.size → I pre W → (∀ a' W', KeepsFrom w.heap.size W W' → Kp W W' → I pre W' → Ax x a' W' → K a' W') →
      assign.wpIn (F.inRound l) (n - 1 - 1) P (Exit.then K (fun _ _ _ => False)) { tmps := (ps.zip (encs x)).foldl (fun t (p, v) => t.setIfInBounds p v) a.tmps, defers := [] } W)
    (hbody : ∀ (l : Nat) (pre : List α) (x : α) (a' : Act) (W : World), w.heap.size ≤ W.heap.size → (∃ r, W.heap[l]? = some (.loop r)) → I pre W → Ax x a' W → N pre x → body.wpIn (F.inRound l) (n - 1 - 1) P (ownPostG w.heap.size Kp I Ix (pre ++ [x]) W) a' W)
    (hdone : ∀ (xs : List α) (W : World), S xs → I xs W → Q .normal a W)
    (hstop : ∀ (c : Code) (pre : List α) (W : World), Sp pre → Ix c pre W → c.wpIn F n P Q a W) :
    (Code.rangeFunc g ps assign body).wpIn F n P Q a w := by
  refine wpIn_rangeFunc fun fn hfn => ?_
  rw [hro]
  obtain ⟨rec, hrec⟩ : ∃ rec : LoopState → Option Code → Loop, rec = fun st pe => { state := st, pending := pe, fn, tmps := a.tmps, params := ps, assign, body, defers := r₀.defers } := ⟨_, rfl⟩
  obtain ⟨W1, hW1⟩ : ∃ W1, w.alloc (.loop (rec .ready none)) = W1 := ⟨_, rfl⟩
  have hL1 : W1.heap[w.heap.size]? = some (.loop (rec .ready none)) := by rw [← hW1]; exact World.alloc_heap_new w _
  have hI1 : I [] W1 := by rw [← hW1]; exact hI.alloc _ h0
  have hb1 : Below w.heap.size w W1 := by rw [← hW1]; exact bAlloc (Below.refl _ _) _
  refine ⟨w.heap.size, [], W1, { target := .fn (.func gf) lb, args := bnd ++ #[.func (.yield w.heap.size) #[] #[]] }, W1, gf,
    bnd ++ #[.func (.yield w.heap.size) #[] #[]] ++ lb, W1, ?_, ?_, ?_, ?_, fun _ => h1, ?_⟩
  · rw [← hW1, hrec]; exact run_enterLoop_inner hl₀ _ _ _ _ _
  · simp only [resolve, hg]
    simp [go_sem]
  · intro f' hf'; simp [Target.leads] at hf'; subst hf'; exact hFg
  · simp [invoke, go_sem, eg]
  · have hz1 : W1.heap.size = w.heap.size + 1 := by rw [← hW1]; simp
    have hnw : ∀ {A B : World} {row : Option Nat}, (∀ r, row = some r → W1.heap.size ≤ r ∧ ∃ o : Obj, A.heap[r]? = some o ∧ o.isCells = false) → (∀ r, row = some r → w.heap.size ≤ r ∧ ∃ o : Obj, A.heap[r]? = some o ∧ o.isCells = false) :=
      fun hr r e => by obtain ⟨hB, ho⟩ := hr r e; exact ⟨by omega, ho⟩
    have hkp : ∀ {A B : World} {row : Option Nat} {k : Nat} {o : Obj}, A.grownBy B row → (∀ r, row = some r → W1.heap.size ≤ r ∧ ∃ o : Obj, A.heap[r]? = some o ∧ o.isCells = false) → k < W1.heap.size → A.heap[k]? = some o → B.heap[k]? = some o :=
      fun hg' hr hk ho => (hg'.block _ (Array.getElem?_eq_some_iff.1 ho).1 (fun e => by have := (hr _ e.symm).1; omega)).trans ho
    refine (hseq w.heap.size
      (fun pre W => I pre W ∧ W.heap[w.heap.size]? = some (.loop (rec .ready none)))
      (fun pre W => ∃ c, Ix c pre W ∧ W.heap[w.heap.size]? = some (.loop (rec .done (some c)))) W1 hb1
      (fun s A B row hs hg' hr => ⟨hI s A B row hs.1 hg' (hnw (B := B) hr), hkp hg' hr (by omega) hs.2⟩)
      (fun s A B row ⟨c, hc, hl⟩ hg' hr => ⟨c, hIx c s A B row hc hg' (hnw (B := B) hr), hkp hg' hr (by omega) hl⟩) ?_ ⟨hI1, hL1⟩).mono ?_
    · rintro pre x W ⟨hi, hl⟩ hlen
      have hlt : w.heap.size < W.heap.size := (Array.getElem?_eq_some_iff.1 hl).1
      have hy := run_yield (P := P) (args := encs x) hl (by rw [hrec]; exact hps x)
      rw [hrec] at hy
      refine ⟨fn, _, assign, body, hy, roundIn_of_wpIn hfn (hassign _ pre x W _ (by omega) hi ?_)⟩
      intro a' Wa hkfa hkpa hia hax
      have hla := hkfa.same _ _ (by omega) hl rfl
      have hlta : w.heap.size < Wa.heap.size := (Array.getElem?_eq_some_iff.1 hla).1
      refine ⟨_, run_beginRound hla (by rw [hrec]), ?_⟩
      obtain ⟨B, hBd⟩ : ∃ B, Wa.putObj (w.heap.size) (.loop { rec .ready none with state := .busy }) = B := ⟨_, rfl⟩
      rw [hBd]
      have hl2 : B.heap[w.heap.size]? = some (.loop { rec .ready none with state := .busy }) := by rw [← hBd]; exact World.putObj_heap_same hlta
      have hw2 : Kp Wa B := by rw [← hBd]; exact hKb _ _ _ _ (by omega) hla rfl
      have hiB : I pre B := by rw [← hBd]; exact hI.putObj _ hia (by omega) hla rfl
      have haB : Ax x a' B := by rw [← hBd]; exact (hAx x a').putObj (s := ()) _ hax (by omega) hla rfl
      have hsB : w.heap.size ≤ B.heap.size := by have := (Array.getElem?_eq_some_iff.1 hl2).1; omega
      refine wpIn_mono (hbody _ pre x a' B hsB ⟨_, hl2⟩ hiB haB hlen) ?_
      have fin : ∀ (jump : Option Code) (W3 : World), KeepsFrom w.heap.size B W3 →
          (Instr.endRound (w.heap.size) jump).run P W3 = .ok (.bool jump.isNone) (W3.putObj (w.heap.size) (.loop (rec (if jump.isNone then .ready else .done) jump))) ∧
          W3.heap[w.heap.size]? = some (.loop { rec .ready none with state := .busy }) ∧
          (W3.putObj (w.heap.size) (.loop (rec (if jump.isNone then .ready else .done) jump))).heap[w.heap.size]? = some (.loop (rec (if jump.isNone then .ready else .done) jump)) := fun jump W3 hk3 => by
        have hl3 := hk3.same _ _ (by omega) hl2 rfl
        have := run_endRound (P := P) jump hl3
        rw [hrec] at this ⊢
        exact ⟨this, by rw [hrec] at hl3; exact hl3, World.putObj_heap_same (Array.getElem?_eq_some_iff.1 hl3).1⟩
      rintro e a3 W3 hp
      have kput : ∀ (X : World) (o : Obj), KeepsFrom W1.heap.size X (X.putObj (w.heap.size) o) := fun X o => ⟨by simp [World.putObj], fun k ob hB hk _ => (World.putObj_heap_other (by omega)).trans hk⟩
      have kall : ∀ (jump : Option Code), KeepsFrom w.heap.size B W3 → KeepsFrom W1.heap.size W (W3.putObj (w.heap.size) (.loop (rec (if jump.isNone then .ready else .done) jump))) := fun jump hk3 =>
        KeepsFrom.trans (KeepsFrom.trans (KeepsFrom.trans ⟨hkfa.size, fun k o hB hk ho => hkfa.same k o (by omega) hk ho⟩ (by rw [← hBd]; exact kput _ _)) ⟨hk3.size, fun k o hB hk ho => hk3.same k o (by omega) hk ho⟩) (kput _ _)
      cases e with
      | normal =>
        obtain ⟨hk3, hkp3, hi3⟩ := hp
        obtain ⟨hr, hl3, hl4⟩ := fin none W3 hk3
        exact ⟨_, _, hr, .inl ⟨rfl, ⟨hI.putObj _ hi3 (by omega) hl3 rfl, hl4⟩, hKt hkpa (hKt (hKt hw2 hkp3) (hKb _ _ _ _ (by omega) hl3 rfl)), kall none hk3⟩⟩
      | ret =>
        obtain ⟨hr, hl3, hl4⟩ := fin (some .ret) W3 hp.1
        exact ⟨_, _, hr, .inr ⟨rfl, ⟨.ret, (hIx _).putObj _ hp.2 (by omega) hl3 rfl, hl4⟩, kall (some .ret) hp.1⟩⟩
      | exit id =>
        obtain ⟨hr, hl3, hl4⟩ := fin (some (.exit id)) W3 hp.1
        exact ⟨_, _, hr, .inr ⟨rfl, ⟨.exit id, (hIx _).putObj _ hp.2 (by omega) hl3 rfl, hl4⟩, kall (some (.exit id)) hp.1⟩⟩
      | goto t =>
        obtain ⟨hr, hl3, hl4⟩ := fin (some (.goto t)) W3 hp.1
        exact ⟨_, _, hr, .inr ⟨rfl, ⟨.goto t, (hIx _).putObj _ hp.2 (by omega) hl3 rfl, hl4⟩, kall (some (.goto t)) hp.1⟩⟩
      | panic ch => exact hp.elim
      | outgrown => exact hp.elim
    · rintro e W2 ⟨⟨v, rfl⟩, (⟨xs, hS, hi, hl⟩ | ⟨pre, hSp, c, hi, hl⟩)⟩
      · exact ⟨none, _, by have := run_endLoop (P := P) hl (by rw [hrec]; simp); rw [hrec] at this; exact this, hdone xs _ hS (hI.putObj _ hi (by omega) hl rfl)⟩
      · exact ⟨some c, _, by have := run_endLoop (P := P) hl (by rw [hrec]; simp); rw [hrec] at this; exact this, hstop c pre _ hSp ((hIx c).putObj _ hi (by omega) hl rfl)⟩
end
end Go.Proofs.YthnojgdckkdcgaaGreatDoor

namespace Go.Proofs.YthnojgdckkdcgaaGreatDoor
open Go.RowKit Go.Sort Go.Shelf
attribute [local go_sem] Oper.semAt_some
/-- the town's memory is kept, and two boxes -/
def KpW (N b1 b2 : Nat) (A B : World) : Prop := Below N A B ∧ B.heap[b1]? = A.heap[b1]? ∧ B.heap[b2]? = A.heap[b2]?
theorem KpW.trans {N b1 b2 : Nat} {A B D : World} (h : KpW N b1 b2 A B) (k : KpW N b1 b2 B D) : KpW N b1 b2 A D :=
  ⟨⟨k.1.os.trans h.1.os, k.1.tape.trans h.1.tape, k.1.output.trans h.1.output, Nat.le_trans h.1.size k.1.size, fun j hj => (k.1.block j hj).trans (h.1.block j hj)⟩, k.2.1.trans h.2.1, k.2.2.trans h.2.2⟩
theorem selTo_prefix (p : Nat → Bool) {k n : Nat} (h : k ≤ n) : selTo p k <+: selTo p n := by
  induction n with
  | zero => obtain rfl : k = 0 := by omega
            exact List.prefix_refl _
  | succ n ih =>
    rcases Nat.eq_or_lt_of_le h with rfl | h1
    · exact List.prefix_refl _
    · refine (ih (by omega)).trans ?_
      conv => rhs; unfold selTo
      split
      · exact List.prefix_append _ _
      · exact List.prefix_refl _
theorem selTo_t {p : Nat → Bool} {n : Nat} (h : p n = true) : selTo p (n + 1) = selTo p n ++ [(n : Int)] := by conv => lhs; unfold selTo; rw [if_pos h]
theorem selTo_f {p : Nat → Bool} {n : Nat} (h : p n = false) : selTo p (n + 1) = selTo p n := by conv => lhs; unfold selTo; rw [if_neg (by rw [h]; decide)]
def encI (x : Int) : Array Value := #[.int .i64 x]
def whoF (b1 b2 : Nat) : Array Value := #[.pointer (some ⟨b1, 0, none⟩), .pointer (some ⟨b2, 0, none⟩)]
theorem whoP_any (C s : Nat) (w : World) : Calls Tryz.prog 84 #[.pointer (some ⟨C, 0, none⟩), .int .i64 s] w fun e w' => e = .returned (.func (.func 133) #[] (whoF w.heap.size (w.heap.size + 1))) ∧ w' = (w.alloc (.cells #[.pointer (some ⟨C, 0, none⟩)] 135)).alloc (.cells #[.int .i64 s] 3) := by
  go_enter Tryz.func84, Tryz.ntmps84
  go_wp2_with fail
  go_ret
  exact ⟨rfl, rfl⟩
set_option maxHeartbeats 4000000 in
set_option maxRecDepth 100000 in
theorem who_seq (n C b1 b2 : Nat) (Aw Af Ao Ap As : Option Addr) (cw cf co cp cs : Nat) (t : Pt) (Al : Option Addr) (cl s : Nat) (w0 w : World) (hn : 1 ≤ n) (hst : StreetAt w0 C Aw Af Ao Ap As cw cf co cp cs t Al cl) (hb0 : Below w0.heap.size w0 w) (h1 : TBox w b1 135 #[.pointer (some ⟨C, 0, none⟩)]) (h2 : TBox w b2 3 #[.int .i64 s]) (ok : t.Ok) (hs : s < t.ns) :
    SeqC Fence.wide n Tryz.prog 133 #[] (whoF b1 b2) encI (KpW w0.heap.size b1 b2) (· = t.who s) (· <+: t.who s) (fun pre x => pre ++ [x] <+: t.who s) w := by
  intro l J Jx W hW hJ hJx hY h0
  have HY := Lib.hid hY
  have HJJ := Lib.hid hJ
  have HST := Lib.hid hst
  have HOK := Lib.hid ok
  have HS := Lib.hid hs
  have HB0 := Lib.hid (bTrans hb0 hW)
  have HX1 := Lib.hid (h1.mono hW)
  have HX2 := Lib.hid (h2.mono hW)
  have hlt0 := hst.box.lt
  obtain ⟨m, hm⟩ : ∃ m : Nat, t.q.wells = (m : Int) := ⟨t.q.wells.toNat, by have := ok.q.w0; omega⟩
  have HM := Lib.hid hm
  have m4 : m ≤ 4 := by have := ok.q.w1; omega
  have HW := Lib.hid (show t.who s = selTo (t.whoB s) m by unfold Pt.who Pt.m; rw [hm]; rfl)
  rw [HW.out] at HY ⊢
  have hbx := (hst.mono HB0.out).box
  rw [hm] at hbx
  obtain ⟨c0, c1, c2, c3, c4, c5, c6, c7, c8, c9, hCl⟩ := hbx.c10
  obtain ⟨x1, x1l⟩ := HX1.out.c1
  obtain ⟨x2, x2l⟩ := HX2.out.c1
  clear hY hJ hJx hW h1 h2 hst ok hs hb0 hm hbx
  refine callsIn_of_wp Tryz.func133 rfl trivial ?_ rfl
  simp only [whoF, Tryz.ntmps133, List.size_toArray, List.length_cons, List.length_nil, Nat.reduceAdd, Nat.reduceSub, Array.replicate_succ, Array.replicate_zero, List.push_toArray, List.append_toArray, List.nil_append, List.cons_append]
  gi_wp2
  clear c0 c1 c2 c3 c4 c5 c6 c7 c8 c9 x1 x2 x1l x2l
  gi_loopw [11] (fun i wr => ∃ v : Nat, i = .int .i64 v ∧ v ≤ m ∧ J (selTo (t.whoB s) v) wr ∧ Below w0.heap.size w0 wr ∧ TBox wr b1 135 #[.pointer (some ⟨C, 0, none⟩)] ∧ TBox wr b2 3 #[.int .i64 s]) (fun i _ => m - (intOf i).toNat)
  case atStart => exact ⟨0, rfl, Nat.zero_le _, h0, HB0.out, HX1.out, HX2.out⟩
  case round =>
    obtain ⟨v, rfl, hv, hJv, hbv, hx1, hx2⟩ := hrel
    have HJ := Lib.hid hJv
    have HB := Lib.hid hbv
    have HY1 := Lib.hid hx1
    have HY2 := Lib.hid hx2
    clear hJv hbv hx1 hx2 h0
    by_cases hvm : v < m
    · have v1 : (v : Int) < (m : Int) := by omega
      have hvw : (v : Int) < t.q.wells := by rw [HM.out]; exact v1
      obtain ⟨x1, x1l⟩ := HY1.out.c1
      obtain ⟨x2, x2l⟩ := HY2.out.c1
      obtain ⟨k, hk⟩ : ∃ k, t.inN s v = k := ⟨_, rfl⟩
      have HK := Lib.hid hk
      clear hk
      gi_wp2
      refine ⟨trivial, (callsIn_wide.2 (inP_any C Aw Af Ao Ap As cw cf co cp cs t Al cl s v _ (HST.out.mono HB.out) HOK.out HS.out hvw)).mono ?_⟩
      rintro e w4 ⟨rfl, hb4⟩
      rw [HK.out]
      have HJ4 := Lib.hid (HJJ.out _ _ _ none HJ.out (grown_below hb4) (fun r e => by cases e))
      have HB4 := Lib.hid (bTrans HB.out hb4)
      have HZ1 := Lib.hid (HY1.out.mono hb4)
      have HZ2 := Lib.hid (HY2.out.mono hb4)
      clear hb4 x1 x2 x1l x2l
      by_cases hk0 : 0 < k
      · have g0 : decide ((k : Int) > 0) = true := by simp; exact hk0
        have g1 : (0 : Int) < (k : Int) := by omega
        have HT := Lib.hid (selTo_t (p := t.whoB s) (n := v) (by unfold Pt.whoB; rw [HK.out]; simpa using hk0))
        clear hk0
        obtain ⟨fn, tmps, assign, body, hy, hR⟩ := HY.out _ (v : Int) _ HJ4.out (by rw [← HT.out]; exact selTo_prefix _ (by omega))
        simp only [encI] at hy
        gi_wp2
        refine hR.mono ?_
        rintro e W3 (⟨rfl, hJ3, hk3, _⟩ | ⟨rfl, hJx3, _⟩)
        · have HJ3 := Lib.hid (HT.out.symm ▸ hJ3 : J (selTo (t.whoB s) (v + 1)) W3)
          have HB3 := Lib.hid (show Below w0.heap.size w0 W3 from ⟨hk3.1.os.trans HB4.out.os, hk3.1.tape.trans HB4.out.tape, hk3.1.output.trans HB4.out.output, Nat.le_trans HB4.out.size hk3.1.size, fun j hj => (hk3.1.block j hj).trans (HB4.out.block j hj)⟩)
          have HU1 := Lib.hid (show TBox W3 b1 135 #[.pointer (some ⟨C, 0, none⟩)] from hk3.2.1.trans HZ1.out)
          have HU2 := Lib.hid (show TBox W3 b2 3 #[.int .i64 s] from hk3.2.2.trans HZ2.out)
          clear hJ3 hk3 hy
          gi_wp2
          go_roundw
          case rel =>
            first
            | exact ⟨v + 1, by go_num, by omega, HJ3.out, HB3.out, HU1.out, HU2.out⟩
            | ((repeat apply Exists.intro)
               refine ⟨⟨v + 1, ?_, by omega, HJ3.out, HB3.out, HU1.out, HU2.out⟩, rfl⟩
               go_num)
          case measure => simp [intOf]; omega
        · have HX := Lib.hid (HT.out.symm ▸ hJx3 : Jx (selTo (t.whoB s) (v + 1)) W3)
          clear hJx3 hy
          gi_wp2
          refine bodyPost_ret (results_none rfl _ _ _) rfl ?_
          exact ⟨⟨_, rfl⟩, .inr ⟨_, selTo_prefix _ (by omega), HX.out⟩⟩
      · skip
        have HT := Lib.hid (selTo_f (p := t.whoB s) (n := v) (by unfold Pt.whoB; rw [HK.out]; simpa using hk0))
        obtain rfl : k = 0 := by omega
        have HJ3 := Lib.hid (HT.out.symm ▸ HJ4.out : J (selTo (t.whoB s) (v + 1)) w4)
        gi_wp2
        refine ⟨(fun f h => nomatch h), ?_⟩
        gi_wp2
        go_roundw
        case rel =>
          first
          | exact ⟨v + 1, by go_num, by omega, HJ3.out, HB4.out, HZ1.out, HZ2.out⟩
          | ((repeat apply Exists.intro)
             refine ⟨⟨v + 1, ?_, by omega, HJ3.out, HB4.out, HZ1.out, HZ2.out⟩, rfl⟩
             go_num)
        case measure => simp [intOf]; omega
    · obtain rfl : v = m := by omega
      gi_wp2
      go_end0
      exact ⟨⟨_, rfl⟩, .inl ⟨_, rfl, HJ.out⟩⟩
end Go.Proofs.YthnojgdckkdcgaaGreatDoor

namespace Go.Proofs.YthnojgdckkdcgaaGreatDoor
open Go.RowKit Go.Sort Go.Shelf
attribute [local go_sem] Oper.semAt_some
def intE : Elem Int := { enc := fun x => [.int .i64 x], size := 1, ty := 3, sl := 34, z := .int .i64 0, bytes := 8 }
theorem intG : intE.Good :=
  ⟨by kernel_rfl, Tryz.underlying34, by decide, by decide, fun _ => rfl, fun x u hu => by
    obtain rfl := (by simpa [intE] using hu : u = .int .i64 x)
    rfl, by decide⟩
theorem intE_cells (l : List Int) : intE.cells l = numL l := by
  unfold Elem.cells numL
  induction l with
  | nil => rfl
  | cons x l ih => rw [List.flatMap_cons, ih]; rfl
theorem kpW_b {N b1 b2 : Nat} {w : World} (hN : N ≤ w.heap.size) (h1 : b1 < w.heap.size) (h2 : b2 < w.heap.size) (W : World) (l : Nat) (o o' : Obj) (hl : w.heap.size ≤ l) (_ : W.heap[l]? = some o) (_ : o.isCells = false) : KpW N b1 b2 W (W.putObj l o') :=
  ⟨⟨rfl, rfl, rfl, by simp [World.putObj], fun k hk => World.putObj_heap_other (by omega)⟩, World.putObj_heap_other (by omega), World.putObj_heap_other (by omega)⟩
theorem kpW_two {N B b1 b2 : Nat} {w W W' : World} (h : Below B w W) (h' : Below B w W') (hz : W.heap.size ≤ W'.heap.size) (hN : N ≤ B) (h1 : b1 < B) (h2 : b2 < B) : KpW N b1 b2 W W' :=
  ⟨⟨h'.os.trans h.os.symm, h'.tape.trans h.tape.symm, h'.output.trans h.output.symm, hz, fun k hk => (h'.block k (by omega)).trans (h.block k (by omega)).symm⟩, (h'.block b1 h1).trans (h.block b1 h1).symm, (h'.block b2 h2).trans (h.block b2 h2).symm⟩
theorem KpW.refl (N b1 b2 : Nat) (W : World) : KpW N b1 b2 W W := ⟨⟨rfl, rfl, rfl, Nat.le_refl _, fun _ _ => rfl⟩, rfl, rfl⟩
theorem owns_some {w : World} {base : Nat} {e : TypeId} {size : Nat} {v : Value} {n : Nat} {xs : List Value} (h : w.ownsRow base e size v n xs) (hn : 0 < n) : ∃ g c, v = .slice (some ⟨g, 0, none⟩) n c := by
  rcases h.2 with ⟨_, h0⟩ | ⟨g, c, _, hv, _⟩
  · omega
  · exact ⟨g, c, hv⟩
set_option maxHeartbeats 4000000 in
set_option maxRecDepth 100000 in
theorem appendW_any (C b1 b2 : Nat) (Aw Af Ao Ap As : Option Addr) (cw cf co cp cs : Nat) (t : Pt) (Al : Option Addr) (cl s : Nat) (w0 w : World) (hst : StreetAt w0 C Aw Af Ao Ap As cw cf co cp cs t Al cl) (hb0 : Below w0.heap.size w0 w) (h1 : TBox w b1 135 #[.pointer (some ⟨C, 0, none⟩)]) (h2 : TBox w b2 3 #[.int .i64 s]) (ok : t.Ok) (hs : s < t.ns) :
    Calls Tryz.prog 132 #[.slice none 0 0, .func (.func 133) #[] (whoF b1 b2)] w fun e w' => (∃ v, e = .returned v ∧ OwnL w' w.heap.size v (t.who s)) ∧ Below w.heap.size w w' := by
  have HB0 : Below w.heap.size w (w.alloc (.cells #[.slice none 0 0] 34)) := bAlloc (Below.refl _ _) _
  have hN := hb0.size
  have hl1 := h1.lt
  have hl2 := h2.lt
  have hlen : (t.who s).length ≤ 100 := by
    have := selTo_len (t.whoB s) t.m
    have h4 := ok.q.w1
    unfold Pt.who
    unfold Pt.m at this ⊢
    omega
  have HLEN := Lib.hid hlen
  have HSEQ := Lib.hid (who_seq 6 C b1 b2 Aw Af Ao Ap As cw cf co cp cs t Al cl s w0 (w.alloc (.cells #[.slice none 0 0] 34)) (by decide) hst (bTrans hb0 HB0) (h1.mono HB0) (h2.mono HB0) ok hs)
  have HB := Lib.hid HB0
  clear HB0 hst ok hs hb0 hlen h1 h2
  refine (callsIn_wide (n := 7)).1 ?_
  refine callsIn_of_wp_marks Tryz.func132 rfl trivial ?_ rfl
  simp only [Tryz.ntmps132, List.size_toArray, List.length_cons, List.length_nil, Nat.reduceAdd, Nat.reduceSub, Array.replicate_succ, Array.replicate_zero, List.push_toArray, List.append_toArray, List.nil_append, List.cons_append]
  gi_wp2
  refine wpIn_range_caps (gf := 133) (bnd := #[]) (lb := whoF b1 b2) rfl (by decide) rfl trivial (enters_of Tryz.func133 (by kernel_rfl)) HSEQ.out (fun h k => h.trans k) (kpW_b (by simp; omega) (by simp; omega) (by simp; omega)) (fun _ => rfl)
    (fun pre W => (∃ v, Boxed W w.heap.size 34 v ∧ W.ownsRow (w.heap.size + 1) 3 1 v pre.length (intE.cells pre) ∧ True) ∧ Below w.heap.size w W)
    (fun c pre W => False)
    (OwnFrom.and (Own.from (holdsRow_own (w.heap.size + 1) w.heap.size 34 3 1 List.length intE.cells (fun _ _ => True)) _) (ownFrom_below (Nat.le_refl _) (by simp)))
    (fun c _ _ _ _ hs _ _ => hs)
    ⟨⟨_, Boxed.new w _ _, World.ownsRow_nil _ _ _ _, trivial⟩, HB.out⟩
    (fun x a' W => a' = { tmps := #[.slice none 0 0, .func (.func 133) #[] (whoF b1 b2), .pointer (some ⟨w.heap.size, 0, none⟩), undef, .slice none 0 0, .int .i64 x, .func (.func 133) #[] (whoF b1 b2), .int .i64 x, undef, undef, undef, undef, undef], defers := [] })
    (fun x a' _ X Y row hs hg hr => hs) ?assign ?body ?done ?stop
  case assign =>
    rintro l pre x W K hsz ⟨⟨v, hv, hrow, _⟩, hbel⟩ hK
    have HV := Lib.hid hv
    have HR := Lib.hid hrow
    have HBL := Lib.hid hbel
    clear hbel hv hrow
    simp only [encI]
    gi_wp2
    exact hK _ _ (KeepsFrom.refl _ _) (KpW.refl _ _ _ _) ⟨⟨v, HV.out, HR.out, trivial⟩, HBL.out⟩ rfl
  case body =>
    rintro l pre x a' W hsz ⟨⟨v, hv, hrow, _⟩, hbel⟩ rfl hlen
    have HBL := Lib.hid hbel
    have HV := Lib.hid hv
    have HR := Lib.hid (show OwnE intE W (w.heap.size + 1) v pre from hrow)
    have hpl : pre.length ≤ 100 := by
      have h1 := hlen.length_le
      rw [List.length_append] at h1
      have := HLEN.out
      omega
    have y0 := hv.cell
    have y1 := hv.frozen
    have z0 := hv.lt
    simp only [World.size_alloc] at hsz
    clear hbel hrow hlen hv
    gi_wp2_with (gi_at_builtin; refine wpListIn_snocE intG _ rfl (Operand.tmp 8) (Operand.tmp 10) rfl (w.heap.size + 1) v pre x rfl ?q1 W.heap.size rfl ?q2 ?q3 ?q4 ?_)
    case q1 => exact HR.out.mono (bAlloc (Below.refl _ _) _)
    case q2 =>
      intro a u hu
      match a, hu with
      | 0, hu =>
        obtain rfl : Value.int .i64 x = u := by simpa [intE] using hu
        simp [go_sem]
    case q3 => omega
    case q4 => simp; omega
    intro v' w5 hown5 hb5 hg5
    have HB5 := Lib.hid (hb5 w.heap.size w (by omega) (bAlloc HBL.out _))
    have hrowA : World.ownsRow (W.alloc (.cells #[.int .i64 x] 3)) (w.heap.size + 1) 3 1 v pre.length (intE.cells pre) := owns_below HR.out (bAlloc (Below.refl _ _) _)
    have hv5 := (HV.out.alloc (.cells #[.int .i64 x] 3)).kept hg5 (Boxed.not_row (e := 3) (HV.out.alloc _) (by decide) hrowA)
    clear hrowA
    obtain ⟨g5, c5, rfl⟩ := owns_some hown5 (by simp)
    obtain ⟨n5, hn5⟩ : ∃ n5, (pre ++ [x]).length = n5 := ⟨_, rfl⟩
    rw [hn5] at hown5 ⊢
    clear hn5
    have HV5 := Lib.hid hv5
    have HO5 := Lib.hid hown5
    have HG5 := Lib.hid hg5
    have y5 := hv5.cell
    have y6 := hv5.frozen
    have z5 := hv5.lt
    have hz5 := hg5.size
    simp only [World.size_alloc] at hz5
    clear hb5 hg5 hv5 hown5 y0 y1
    gi_wp2
    have hbN : Below w.heap.size w (w5.setCell ⟨w.heap.size, 0, none⟩ (.slice (some ⟨g5, 0, none⟩) n5 c5)) := Below.setCell (p := ⟨w.heap.size, 0, none⟩) HB5.out (Nat.le_refl _) _
    refine ⟨?_, kpW_two HBL.out hbN (by simp [World.setCell]; omega) hN hl1 hl2, ⟨⟨_, HV5.out.set _, HO5.out.set (b := w.heap.size) (by omega) 0 _, trivial⟩, hbN⟩⟩
    refine ((keeps_below (bAlloc (Below.refl W.heap.size W) _)).trans ((KeepsOthers.of_grownBy HG5.out fun r ob e hob => ?_).from _)).trans ((KeepsOthers.setCell _ _ _).from _)
    obtain ⟨_, cur, hcur⟩ := owns_typed (owns_below HR.out (bAlloc (Below.refl _ _) (.cells #[.int .i64 x] 3))) r e
    rw [hcur] at hob
    injection hob with hob
    rw [← hob]
    rfl
  case done =>
    rintro D xs W hD rfl ⟨⟨v, hv, hrow, _⟩, hbel⟩ hK
    have HBL := Lib.hid hbel
    have HV := Lib.hid hv
    have HR := Lib.hid (show W.ownsRow (w.heap.size + 1) 3 1 v (t.who s).length (numL (t.who s)) by rw [← intE_cells]; exact hrow)
    have y0 := hv.cell
    clear hbel hv hrow
    gi_wp2
    refine ⟨by simp, .inl ⟨_, _, rfl, run_takeDeferred hK, ?_⟩⟩
    simp only [World.size_alloc] at hD
    exact ⟨_, results_tmp rfl _ _ _, ⟨v, rfl, owns_lower (ownsRow_putObj HR.out _ hK rfl) (Nat.le_succ _)⟩, below_put HBL.out (by have := HV.out.lt; omega) (by omega) _⟩
  case stop =>
    rintro D c pre W _ _ h _
    exact h.elim
theorem collectW_any (C b1 b2 : Nat) (Aw Af Ao Ap As : Option Addr) (cw cf co cp cs : Nat) (t : Pt) (Al : Option Addr) (cl s : Nat) (w0 w : World) (hst : StreetAt w0 C Aw Af Ao Ap As cw cf co cp cs t Al cl) (hb0 : Below w0.heap.size w0 w) (h1 : TBox w b1 135 #[.pointer (some ⟨C, 0, none⟩)]) (h2 : TBox w b2 3 #[.int .i64 s]) (ok : t.Ok) (hs : s < t.ns) :
    Calls Tryz.prog 83 #[.func (.func 133) #[] (whoF b1 b2)] w fun e w' => (∃ v, e = .returned v ∧ OwnL w' w.heap.size v (t.who s)) ∧ Below w.heap.size w w' := by
  have HC := Lib.hid (appendW_any C b1 b2 Aw Af Ao Ap As cw cf co cp cs t Al cl s w0 w hst hb0 h1 h2 ok hs)
  clear hst hb0 h1 h2 ok hs
  go_enter Tryz.func83, Tryz.ntmps83
  go_wp2_with fail
  refine HC.out.mono ?_
  rintro e w' ⟨⟨v, rfl, hv⟩, hb⟩
  have HV := Lib.hid hv
  go_wp2_with fail
  go_ret
  exact ⟨⟨v, rfl, HV.out⟩, hb⟩
end Go.Proofs.YthnojgdckkdcgaaGreatDoor

namespace Go.Proofs.YthnojgdckkdcgaaGreatDoor
open Go.RowKit Go.Sort
/-- a list of numbers and an error -/
def NumsOut (w : World) (base : Nat) (er : Int) (L : List Int) (e : Ending) : Prop := (er = 0 → ∃ v, e = .returned (.tuple #[v, .int .i64 0]) ∧ OwnL w base v L) ∧ (er ≠ 0 → e = .returned (.tuple #[.slice none 0 0, .int .i64 er]))
set_option maxHeartbeats 4000000 in
set_option maxRecDepth 100000 in
theorem whoOutP_any (Aw Af Ao Ap As : Option Addr) (cw cf co cp cs : Nat) (t : Pt) (n : Int) (w : World) (hs : t.Small) (hT : PAt w Aw Af Ao Ap As t) (hB : TabAt w) :
    Calls Tryz.prog 27 #[.agg #[.int .i64 t.q.wells, .slice Aw t.q.nw cw, .slice Af t.q.nf cf, .slice Ao t.no co, .slice Ap t.np cp, .slice As t.ns cs, .int .i64 t.far, .int .i64 t.harm, .int .i64 t.many], .int .i64 n] w fun e w' => NumsOut w' w.heap.size (t.knowErr (t.hasB n)) (t.who n.toNat) e ∧ Below w.heap.size w w' := by
  obtain ⟨bb, hbb⟩ : ∃ b, t.hasB n = b := ⟨_, rfl⟩
  obtain ⟨er, her⟩ : ∃ v, t.knowErr bb = v := ⟨_, rfl⟩
  have HC1 := Lib.hid (fun w => hbb ▸ hasP_any Aw Af Ao Ap As cw cf co cp cs t n w hs.ns : ∀ w : World, Calls Tryz.prog 80 #[.agg #[.int .i64 t.q.wells, .slice Aw t.q.nw cw, .slice Af t.q.nf cf, .slice Ao t.no co, .slice Ap t.np cp, .slice As t.ns cs, .int .i64 t.far, .int .i64 t.harm, .int .i64 t.many], .int .i64 n] w fun e w' => e = .returned (.bool bb) ∧ Below w.heap.size w w')
  have HER := Lib.hid her
  have HBB := Lib.hid hbb
  rw [hbb, her]
  clear hbb her
  have HD0 := Lib.hid (Below.refl w.heap.size w)
  have HSM := Lib.hid hs
  have HT0 := Lib.hid hT
  have HTB0 := Lib.hid hB
  clear hs hT hB
  go_enter Tryz.func27, Tryz.ntmps27
  by_cases he : er = 0
  case neg =>
    have g0 : (er != 0) = true := by simp [he]
    have HNZ := Lib.hid he
    clear he
    go_wp2_with fail
    have HCO := Lib.hid (fun (w' : World) (hb : Below (w.alloc (.cells #[.int .i64 t.q.wells, .slice Aw t.q.nw cw, .slice Af t.q.nf cf, .slice Ao t.no co, .slice Ap t.np cp, .slice As t.ns cs, .int .i64 t.far, .int .i64 t.harm, .int .i64 t.many] 62)).heap.size (w.alloc (.cells #[.int .i64 t.q.wells, .slice Aw t.q.nw cw, .slice Af t.q.nf cf, .slice Ao t.no co, .slice Ap t.np cp, .slice As t.ns cs, .int .i64 t.far, .int .i64 t.harm, .int .i64 t.many] 62)) w') => ((openP_any Aw Af Ao Ap As cw cf co cp cs t bb w' HSM.out ((HT0.out.mono (bAlloc (Below.refl _ _) (.cells #[.int .i64 t.q.wells, .slice Aw t.q.nw cw, .slice Af t.q.nf cf, .slice Ao t.no co, .slice Ap t.np cp, .slice As t.ns cs, .int .i64 t.far, .int .i64 t.harm, .int .i64 t.many] 62))).mono hb) ((HTB0.out.mono (bAlloc (Below.refl _ _) (.cells #[.int .i64 t.q.wells, .slice Aw t.q.nw cw, .slice Af t.q.nf cf, .slice Ao t.no co, .slice Ap t.np cp, .slice As t.ns cs, .int .i64 t.far, .int .i64 t.harm, .int .i64 t.many] 62))).mono hb)).mono fun e w'' h => ⟨(HER.out ▸ h.1).lower hb.size, h.2⟩ : Calls Tryz.prog 82 #[.agg #[.int .i64 t.q.wells, .slice Aw t.q.nw cw, .slice Af t.q.nf cf, .slice Ao t.no co, .slice Ap t.np cp, .slice As t.ns cs, .int .i64 t.far, .int .i64 t.harm, .int .i64 t.many], .bool bb] w' fun e w'' => StrOut w'' (w.alloc (.cells #[.int .i64 t.q.wells, .slice Aw t.q.nw cw, .slice Af t.q.nf cf, .slice Ao t.no co, .slice Ap t.np cp, .slice As t.ns cs, .int .i64 t.far, .int .i64 t.harm, .int .i64 t.many] 62)).heap.size Aw Af Ao Ap As cw cf co cp cs t er e ∧ Below w'.heap.size w' w''))
    refine wp_region_call 4 (fun v w2 => StrOut w2 (w.alloc (.cells #[.int .i64 t.q.wells, .slice Aw t.q.nw cw, .slice Af t.q.nf cf, .slice Ao t.no co, .slice Ap t.np cp, .slice As t.ns cs, .int .i64 t.far, .int .i64 t.harm, .int .i64 t.many] 62)).heap.size Aw Af Ao Ap As cw cf co cp cs t er (.returned v) ∧ Below (w.alloc (.cells #[.int .i64 t.q.wells, .slice Aw t.q.nw cw, .slice Af t.q.nf cf, .slice Ao t.no co, .slice Ap t.np cp, .slice As t.ns cs, .int .i64 t.far, .int .i64 t.harm, .int .i64 t.many] 62)).heap.size (w.alloc (.cells #[.int .i64 t.q.wells, .slice Aw t.q.nw cw, .slice Af t.q.nf cf, .slice Ao t.no co, .slice Ap t.np cp, .slice As t.ns cs, .int .i64 t.far, .int .i64 t.harm, .int .i64 t.many] 62)) w2) (by kernel_rfl) (by decide +kernel) rfl ?_
    apply Exists.intro
    refine ⟨fun K hK => ?_, ?_, fun w1 hb1 K Q' hK => ?_, ?_⟩
    · skip
      repeat (first | (refine wpCalm_skip rfl ?_) | (refine wpCalm_step rfl (fun K hK => ?_); go_simp; (first | (refine hK _ ?_; clear hK K) | (apply Exists.intro; refine ⟨fun _ => ?_, hK _ ?_⟩; ((first | (go_at_call 80; with_reducible exact newer_of (HC1.out _)))); clear hK K))))
      refine wpCalm_nil ?_
      exact hK
    · rfl
    · go_simp
      refine (HCO.out w1 hb1).mono ?_
      rintro e w2 ⟨ho, hb2⟩
      obtain ⟨v, rfl⟩ := StrOut.ret ho
      exact hK v w2 ⟨ho, bTrans hb1 hb2⟩
    clear HCO
    rintro v w2 ⟨ho, hb2⟩
    obtain rfl := Ending.returned.inj (ho.1 HNZ.out)
    clear ho
    apply Exists.intro
    refine ⟨fun K hK => ?_, fun w1 hb3 => ?_⟩
    · skip
      repeat (first | (refine wpCalm_skip rfl ?_) | (refine wpCalm_step rfl (fun K hK => ?_); go_simp; (first | (refine hK _ ?_; clear hK K) | (apply Exists.intro; refine ⟨fun _ => ?_, hK _ ?_⟩; (fail); clear hK K))))
      refine wpCalm_nil ?_
      exact hK
    have hb := bTrans hb2 hb3
    clear hb2 hb3
    have hB1 : Below w.heap.size w w1 := bTrans (bAlloc (Below.refl _ _) (.cells #[.int .i64 t.q.wells, .slice Aw t.q.nw cw, .slice Af t.q.nf cf, .slice Ao t.no co, .slice Ap t.np cp, .slice As t.ns cs, .int .i64 t.far, .int .i64 t.harm, .int .i64 t.many] 62)) hb
    have HD1 := Lib.hid (bTrans HD0.out hB1)
    have HT1 := Lib.hid (HT0.out.mono hB1)
    have HTB1 := Lib.hid (HTB0.out.mono hB1)
    have T1 := Lib.hid (show TBox w1 w.heap.size 62 #[.int .i64 t.q.wells, .slice Aw t.q.nw cw, .slice Af t.q.nf cf, .slice Ao t.no co, .slice Ap t.np cp, .slice As t.ns cs, .int .i64 t.far, .int .i64 t.harm, .int .i64 t.many] from by have := ((TBox.new w #[.int .i64 t.q.wells, .slice Aw t.q.nw cw, .slice Af t.q.nf cf, .slice Ao t.no co, .slice Ap t.np cp, .slice As t.ns cs, .int .i64 t.far, .int .i64 t.harm, .int .i64 t.many] 62).mono (Below.refl _ _)).mono hb; simpa using this)
    clear hb hB1 HD0 HT0 HTB0
    obtain ⟨T_0, T_1, T_2, T_3, T_4, T_5, T_6, T_7, T_8, T_l⟩ := T1.out.c9
    go_wp2_with fail
    go_ret2
    exact ⟨⟨fun h => absurd h HNZ.out, fun _ => rfl⟩, HD1.out⟩
  subst he
  obtain ⟨ok, rfl, _⟩ := Pt.knowErr_zero HER.out
  have HOK := Lib.hid ok
  have hn := hasB_iff.1 HBB.out
  obtain ⟨i, rfl⟩ : ∃ i : Nat, n = (i : Int) := ⟨n.toNat, by omega⟩
  have HI := Lib.hid (show i < t.ns by omega)
  rw [Int.toNat_natCast]
  clear ok hn
  go_wp2_with fail
  have HCO := Lib.hid (fun (w' : World) (hb : Below (w.alloc (.cells #[.int .i64 t.q.wells, .slice Aw t.q.nw cw, .slice Af t.q.nf cf, .slice Ao t.no co, .slice Ap t.np cp, .slice As t.ns cs, .int .i64 t.far, .int .i64 t.harm, .int .i64 t.many] 62)).heap.size (w.alloc (.cells #[.int .i64 t.q.wells, .slice Aw t.q.nw cw, .slice Af t.q.nf cf, .slice Ao t.no co, .slice Ap t.np cp, .slice As t.ns cs, .int .i64 t.far, .int .i64 t.harm, .int .i64 t.many] 62)) w') => ((openP_any Aw Af Ao Ap As cw cf co cp cs t true w' HSM.out ((HT0.out.mono (bAlloc (Below.refl _ _) (.cells #[.int .i64 t.q.wells, .slice Aw t.q.nw cw, .slice Af t.q.nf cf, .slice Ao t.no co, .slice Ap t.np cp, .slice As t.ns cs, .int .i64 t.far, .int .i64 t.harm, .int .i64 t.many] 62))).mono hb) ((HTB0.out.mono (bAlloc (Below.refl _ _) (.cells #[.int .i64 t.q.wells, .slice Aw t.q.nw cw, .slice Af t.q.nf cf, .slice Ao t.no co, .slice Ap t.np cp, .slice As t.ns cs, .int .i64 t.far, .int .i64 t.harm, .int .i64 t.many] 62))).mono hb)).mono fun e w'' h => ⟨(HER.out ▸ h.1).lower hb.size, h.2⟩ : Calls Tryz.prog 82 #[.agg #[.int .i64 t.q.wells, .slice Aw t.q.nw cw, .slice Af t.q.nf cf, .slice Ao t.no co, .slice Ap t.np cp, .slice As t.ns cs, .int .i64 t.far, .int .i64 t.harm, .int .i64 t.many], .bool true] w' fun e w'' => StrOut w'' (w.alloc (.cells #[.int .i64 t.q.wells, .slice Aw t.q.nw cw, .slice Af t.q.nf cf, .slice Ao t.no co, .slice Ap t.np cp, .slice As t.ns cs, .int .i64 t.far, .int .i64 t.harm, .int .i64 t.many] 62)).heap.size Aw Af Ao Ap As cw cf co cp cs t 0 e ∧ Below w'.heap.size w' w''))
  refine wp_region_call 4 (fun v w2 => StrOut w2 (w.alloc (.cells #[.int .i64 t.q.wells, .slice Aw t.q.nw cw, .slice Af t.q.nf cf, .slice Ao t.no co, .slice Ap t.np cp, .slice As t.ns cs, .int .i64 t.far, .int .i64 t.harm, .int .i64 t.many] 62)).heap.size Aw Af Ao Ap As cw cf co cp cs t 0 (.returned v) ∧ Below (w.alloc (.cells #[.int .i64 t.q.wells, .slice Aw t.q.nw cw, .slice Af t.q.nf cf, .slice Ao t.no co, .slice Ap t.np cp, .slice As t.ns cs, .int .i64 t.far, .int .i64 t.harm, .int .i64 t.many] 62)).heap.size (w.alloc (.cells #[.int .i64 t.q.wells, .slice Aw t.q.nw cw, .slice Af t.q.nf cf, .slice Ao t.no co, .slice Ap t.np cp, .slice As t.ns cs, .int .i64 t.far, .int .i64 t.harm, .int .i64 t.many] 62)) w2) (by kernel_rfl) (by decide +kernel) rfl ?_
  apply Exists.intro
  refine ⟨fun K hK => ?_, ?_, fun w1 hb1 K Q' hK => ?_, ?_⟩
  · skip
    repeat (first | (refine wpCalm_skip rfl ?_) | (refine wpCalm_step rfl (fun K hK => ?_); go_simp; (first | (refine hK _ ?_; clear hK K) | (apply Exists.intro; refine ⟨fun _ => ?_, hK _ ?_⟩; ((first | (go_at_call 80; with_reducible exact newer_of (HC1.out _)))); clear hK K))))
    refine wpCalm_nil ?_
    exact hK
  · rfl
  · go_simp
    refine (HCO.out w1 hb1).mono ?_
    rintro e w2 ⟨ho, hb2⟩
    obtain ⟨v, rfl⟩ := StrOut.ret ho
    exact hK v w2 ⟨ho, bTrans hb1 hb2⟩
  clear HCO
  rintro v w2 ⟨ho, hb2⟩
  obtain ⟨C, Al, cl, e1, hst, hC⟩ := ho.2 rfl
  obtain rfl := Ending.returned.inj e1
  clear ho e1
  apply Exists.intro
  refine ⟨fun K hK => ?_, fun w1 hb3 => ?_⟩
  · skip
    repeat (first | (refine wpCalm_skip rfl ?_) | (refine wpCalm_step rfl (fun K hK => ?_); go_simp; (first | (refine hK _ ?_; clear hK K) | (apply Exists.intro; refine ⟨fun _ => ?_, hK _ ?_⟩; (fail); clear hK K))))
    refine wpCalm_nil ?_
    exact hK
  have hst := hst.mono hb3
  have hb := bTrans hb2 hb3
  clear hb2 hb3
  have hB1 : Below w.heap.size w w1 := bTrans (bAlloc (Below.refl _ _) (.cells #[.int .i64 t.q.wells, .slice Aw t.q.nw cw, .slice Af t.q.nf cf, .slice Ao t.no co, .slice Ap t.np cp, .slice As t.ns cs, .int .i64 t.far, .int .i64 t.harm, .int .i64 t.many] 62)) hb
  have HD1 := Lib.hid (bTrans HD0.out hB1)
  have HT1 := Lib.hid (HT0.out.mono hB1)
  have HTB1 := Lib.hid (HTB0.out.mono hB1)
  have HST1 := Lib.hid (hst)
  have T1 := Lib.hid (show TBox w1 w.heap.size 62 #[.int .i64 t.q.wells, .slice Aw t.q.nw cw, .slice Af t.q.nf cf, .slice Ao t.no co, .slice Ap t.np cp, .slice As t.ns cs, .int .i64 t.far, .int .i64 t.harm, .int .i64 t.many] from by have := ((TBox.new w #[.int .i64 t.q.wells, .slice Aw t.q.nw cw, .slice Af t.q.nf cf, .slice Ao t.no co, .slice Ap t.np cp, .slice As t.ns cs, .int .i64 t.far, .int .i64 t.harm, .int .i64 t.many] 62).mono (Below.refl _ _)).mono hb; simpa using this)
  clear hb hB1 HD0 HT0 HTB0
  obtain ⟨T_0, T_1, T_2, T_3, T_4, T_5, T_6, T_7, T_8, T_l⟩ := T1.out.c9
  have HC := Lib.hid hC
  clear hst hC
  go_wp2_with fail
  refine (whoP_any C i _).mono ?_
  rintro e w3 ⟨rfl, rfl⟩
  have hb3 : Below w1.heap.size w1 ((w1.alloc (.cells #[.pointer (some ⟨C, 0, none⟩)] 135)).alloc (.cells #[.int .i64 (i : Int)] 3)) := bAlloc (bAlloc (Below.refl _ _) _) _
  have HB3 := Lib.hid hb3
  have HX1 := Lib.hid (show TBox ((w1.alloc (.cells #[.pointer (some ⟨C, 0, none⟩)] 135)).alloc (.cells #[.int .i64 (i : Int)] 3)) w1.heap.size 135 #[.pointer (some ⟨C, 0, none⟩)] from (TBox.new w1 #[.pointer (some ⟨C, 0, none⟩)] 135).mono (bAlloc (Below.refl _ _) _))
  have HX2 := Lib.hid (show TBox ((w1.alloc (.cells #[.pointer (some ⟨C, 0, none⟩)] 135)).alloc (.cells #[.int .i64 (i : Int)] 3)) (w1.heap.size + 1) 3 #[.int .i64 (i : Int)] from by have := TBox.new (w1.alloc (.cells #[.pointer (some ⟨C, 0, none⟩)] 135)) #[.int .i64 (i : Int)] 3; simpa using this)
  generalize hw3 : ((w1.alloc (.cells #[.pointer (some ⟨C, 0, none⟩)] 135)).alloc (.cells #[.int .i64 (i : Int)] 3)) = w3 at HB3 HX1 HX2 ⊢
  clear hw3 hb3
  go_wp2_with fail
  refine (collectW_any C w1.heap.size (w1.heap.size + 1) Aw Af Ao Ap As cw cf co cp cs t Al cl i w1 w3 HST1.out HB3.out HX1.out HX2.out HOK.out HI.out).mono ?_
  rintro e w4 ⟨⟨v, rfl, hv⟩, hb4⟩
  have HV := Lib.hid hv
  have HB4 := Lib.hid (bTrans HB3.out hb4)
  clear hv hb4
  go_wp2_with fail
  go_ret2
  refine ⟨⟨fun _ => ⟨v, rfl, HV.out.lower ?_⟩, fun h => absurd rfl h⟩, bTrans HD1.out HB4.out⟩
  have := HB3.out.size
  have := HD1.out.size
  omega
end Go.Proofs.YthnojgdckkdcgaaGreatDoor

namespace Go.Proofs.YthnojgdckkdcgaaGreatDoor
open Go.RowKit Go.Sort Go.Shelf
section
variable {F : Fence} {n : Nat} {P : Program}
/-- a loop of at most m rounds, by an invariant of the frame and the world -/
theorem wpIn_loop_inv {Q : Exit → Act → World → Prop} {a : Act} {w : World} {c : Code} (m : Nat) (Inv : Nat → Act → World → Prop) (h0 : Inv 0 a w)
    (hr : ∀ i a w, i ≤ m → Inv i a w → ∀ K : Act → World → Prop, (∀ a' w', i < m → Inv (i + 1) a' w' → K a' w') → c.wpIn F n P (Exit.then K Q) a w) : (Code.loop c).wpIn F n P Q a w := by
  have key : ∀ r i a w, i + r = m → Inv i a w → Code.roundsIn F n P c Q (r + 1) a w := by
    intro r
    induction r with
    | zero =>
      intro i a w hi h
      rw [roundsIn_succ]
      exact hr i a w (by omega) h _ fun a' w' hlt _ => absurd hlt (by omega)
    | succ r ih =>
      intro i a w hi h
      rw [roundsIn_succ]
      exact hr i a w (by omega) h _ fun a' w' _ h' => ih (i + 1) a' w' (by omega) h'
  exact wpIn_loop_rounds (m + 1) (key m 0 a w (by omega) h0)
theorem wpIn_scope_wide {Q : Exit → Act → World → Prop} {a : Act} {w : World} {c : Code} (h : c.wpIn Fence.wide n P (Exit.noGoto Q) a w) : (Code.scope c).wpIn Fence.wide n P Q a w := wpIn_wide.2 (wp_scope_straight (wpIn_wide.1 h))
/-- the marks of ranges over functions -/
def Marks (B : Nat) (W : World) : List Deferred → Prop
  | [] => True
  | d :: ds => (∃ D, d = { target := .collected D, args := #[] } ∧ B ≤ D ∧ W.heap[D]? = some (.deferred (some [])) ∧ ∀ d' ∈ ds, d'.target ≠ .collected D) ∧ Marks B W ds
theorem Marks.keep {B : Nat} {W W' : World} : ∀ {ds : List Deferred}, Marks B W ds → (∀ D, B ≤ D → W.heap[D]? = some (.deferred (some [])) → W'.heap[D]? = some (.deferred (some []))) → Marks B W' ds
  | [], _, _ => trivial
  | _ :: _, ⟨⟨D, h1, h2, h3, h4⟩, h5⟩, hk => ⟨⟨D, h1, h2, hk D h2 h3, h4⟩, h5.keep hk⟩
theorem Marks.keeps {B : Nat} {W W' : World} {ds : List Deferred} (h : Marks B W ds) (hk : KeepsFrom B W W') : Marks B W' ds := h.keep fun D hB hD => hk.same D _ hB hD rfl
theorem Marks.push {B : Nat} {w W : World} {ds : List Deferred} (h : Marks B w ds) (hk : Below w.heap.size w W) {D : Nat} (hB : B ≤ D) (hD : w.heap.size ≤ D) (hW : W.heap[D]? = some (.deferred (some []))) : Marks B W ({ target := .collected D, args := #[] } :: ds) := by
  have hno : ∀ {ds : List Deferred}, Marks B w ds → ∀ d' ∈ ds, d'.target ≠ .collected D := by
    intro ds
    induction ds with
    | nil => exact fun _ d' h => by cases h
    | cons d ds ih =>
      rintro ⟨⟨D', h1, _, h3, _⟩, h5⟩ d' hd e
      rcases List.mem_cons.1 hd with rfl | hd
      · subst h1
        injection e with e
        have := (Array.getElem?_eq_some_iff.1 h3).1
        omega
      · exact ih h5 d' hd e
  exact ⟨⟨D, rfl, hB, hW, hno h⟩, h.keep fun D' _ hD' => (hk.block D' (Array.getElem?_eq_some_iff.1 hD').1).trans hD'⟩
theorem leaves_marks {fn : Func} {tmps : Array Value} {R : Ending → World → Prop} {B : Nat} {T : World → Prop} (hT : ∀ X D, B ≤ D → X.heap[D]? = some (.deferred (some [])) → T X → T (X.putObj D (.deferred none)))
    (hR : ∀ X, T X → ∃ v, (results fn tmps).run P X = .ok v X ∧ R (.returned v) X) : ∀ (ds : List Deferred) (W : World), Marks B W ds → T W → LeavesInM F n P fn tmps R ds .returning W
  | [], W, _, h => hR W h
  | d :: ds, W, ⟨⟨D, h1, hB, hD, hne⟩, hm⟩, h => by
    subst h1
    refine ⟨(fun e => nomatch e), .inl ⟨D, _, rfl, run_takeDeferred hD, leaves_marks hT hR ds _ ?_ (hT W D hB hD h)⟩⟩
    clear h hD
    revert hm hne
    induction ds with
    | nil => exact fun _ _ => trivial
    | cons d ds ih =>
      rintro hne ⟨⟨D', h1, h2, h3, h4⟩, h5⟩
      have hDD : D' ≠ D := fun e => hne d (List.mem_cons_self ..) (by rw [h1, e])
      exact ⟨⟨D', h1, h2, (World.putObj_heap_other hDD).trans h3, h4⟩, ih (fun d' hd => hne d' (List.mem_cons_of_mem _ hd)) h5⟩
end
end Go.Proofs.YthnojgdckkdcgaaGreatDoor

