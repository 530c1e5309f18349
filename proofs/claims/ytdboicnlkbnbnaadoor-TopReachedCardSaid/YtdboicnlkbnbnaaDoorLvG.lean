/- Rows of structs as lists of cells; a row at hand that is gone on with; the walks of Copy and Sounded of the reference of levels. Condition: what is copied is small. -/
import Derived.Test.YtdboicnlkbnbnaaDoorLvF
namespace Go.Proofs.YtdboicnlkbnbnaaDoor
open Go.RowKit Go.Sort
/-! ### Rows of structs -/
def catL (f : Nat → List Value) : Nat → List Value
  | 0 => []
  | n + 1 => catL f n ++ f n
theorem catL_len {f : Nat → List Value} {s : Nat} (hs : ∀ i, (f i).length = s) : ∀ n, (catL f n).length = n * s
  | 0 => by simp [catL]
  | n + 1 => by simp only [catL, List.length_append, catL_len hs n, hs n, Nat.add_mul]; omega
theorem catL_get {f : Nat → List Value} {s : Nat} (hs : ∀ i, (f i).length = s) {i j : Nat} (hj : j < s) : ∀ n, i < n → (catL f n)[i * s + j]? = (f i)[j]?
  | 0, h => by omega
  | n + 1, h => by
    have hl := catL_len hs n
    simp only [catL]
    rcases Nat.lt_or_ge i n with h1 | h1
    · have : (i + 1) * s ≤ n * s := Nat.mul_le_mul_right _ h1
      rw [Nat.add_mul] at this
      rw [List.getElem?_append_left (by omega)]
      exact catL_get hs hj n h1
    · obtain rfl : i = n := by omega
      rw [List.getElem?_append_right (by omega), hl, Nat.add_sub_cancel_left]
theorem catL_inv {f : Nat → List Value} {s : Nat} (hs : ∀ i, (f i).length = s) {k : Nat} {v : Value} : ∀ n, (catL f n)[k]? = some v → ∃ i j, i < n ∧ j < s ∧ k = i * s + j ∧ (f i)[j]? = some v
  | 0, h => by simp [catL] at h
  | n + 1, h => by
    have hl := catL_len hs n
    simp only [catL] at h
    rcases Nat.lt_or_ge k (n * s) with h1 | h1
    · rw [List.getElem?_append_left (by omega)] at h
      obtain ⟨i, j, a, b, c, d⟩ := catL_inv hs n h
      exact ⟨i, j, by omega, b, c, d⟩
    · rw [List.getElem?_append_right (by omega), hl] at h
      have h2 : k - n * s < s := by
        have := (List.getElem?_eq_some_iff.1 h).1
        rw [hs n] at this
        exact this
      exact ⟨n, k - n * s, by omega, h2, by omega, h⟩
theorem catL_congr {f g : Nat → List Value} : ∀ n, (∀ i, i < n → f i = g i) → catL f n = catL g n
  | 0, _ => rfl
  | n + 1, h => by simp only [catL]; rw [catL_congr n (fun i hi => h i (by omega)), h n (by omega)]
theorem catL_one {f : Nat → List Value} (h : ∀ i, ∀ v ∈ f i, v.oneCell' = true) : ∀ n, ∀ v ∈ catL f n, v.oneCell' = true
  | 0, v, hv => by simp [catL] at hv
  | n + 1, v, hv => by
    simp only [catL, List.mem_append] at hv
    exact hv.elim (catL_one h n v) (h n v)
def sndV (f : Nat → Snd) (i : Nat) : List Value := [.int .i64 (f i).well, .int .i64 (f i).low, .int .i64 (f i).high]
def slpV (f : Nat → Slp) (i : Nat) : List Value := [.int .i64 (f i).a, .int .i64 (f i).b, .int .i64 (f i).low, .int .i64 (f i).high]
theorem sndV_len (f : Nat → Snd) (i : Nat) : (sndV f i).length = 3 := rfl
theorem slpV_len (f : Nat → Slp) (i : Nat) : (slpV f i).length = 4 := rfl
theorem sndV_one (f : Nat → Snd) (i : Nat) : ∀ v ∈ sndV f i, v.oneCell' = true := fun v hv => by simp [sndV] at hv; rcases hv with rfl | rfl | rfl <;> rfl
theorem slpV_one (f : Nat → Slp) (i : Nat) : ∀ v ∈ slpV f i, v.oneCell' = true := fun v hv => by simp [slpV] at hv; rcases hv with rfl | rfl | rfl | rfl <;> rfl
theorem catL_nil {f : Nat → List Value} {s n : Nat} (hs : ∀ i, (f i).length = s) (hp : 0 < s) (h : catL f n = []) : n = 0 := by
  have := catL_len hs n
  rw [h] at this
  rcases Nat.eq_zero_or_pos n with e | e
  · exact e
  · have := Nat.mul_pos e hp
    simp at *
    omega
theorem sndsAt_row {w : World} {A : Option Addr} {n : Nat} {f : Nat → Snd} : SndsAt w A n f ↔ RowAt w A (catL (sndV f) n) := by
  constructor
  · rintro (rfl | ⟨b, o, rfl, hlt, hc⟩)
    · exact .inl rfl
    · refine .inr ⟨b, o, rfl, hlt, fun k v hk => ?_⟩
      obtain ⟨i, j, hi, hj, rfl, e⟩ := catL_inv (sndV_len f) n hk
      obtain ⟨c0, c1, c2⟩ := hc i hi
      match j, hj, e with
      | 0, _, e => injection e with e; subst e; exact c0
      | 1, _, e => injection e with e; subst e; exact c1
      | 2, _, e => injection e with e; subst e; exact c2
  · rintro (h | ⟨b, o, rfl, hlt, hc⟩)
    · exact .inl (catL_nil (sndV_len f) (by decide) h)
    · exact .inr ⟨b, o, rfl, hlt, fun i hi => ⟨hc _ _ (catL_get (sndV_len f) (j := 0) (by decide) n hi), hc _ _ (catL_get (sndV_len f) (j := 1) (by decide) n hi), hc _ _ (catL_get (sndV_len f) (j := 2) (by decide) n hi)⟩⟩
theorem slpsAt_row {w : World} {A : Option Addr} {n : Nat} {f : Nat → Slp} : SlpsAt w A n f ↔ RowAt w A (catL (slpV f) n) := by
  constructor
  · rintro (rfl | ⟨b, o, rfl, hlt, hc⟩)
    · exact .inl rfl
    · refine .inr ⟨b, o, rfl, hlt, fun k v hk => ?_⟩
      obtain ⟨i, j, hi, hj, rfl, e⟩ := catL_inv (slpV_len f) n hk
      obtain ⟨c0, c1, c2, c3⟩ := hc i hi
      match j, hj, e with
      | 0, _, e => injection e with e; subst e; exact c0
      | 1, _, e => injection e with e; subst e; exact c1
      | 2, _, e => injection e with e; subst e; exact c2
      | 3, _, e => injection e with e; subst e; exact c3
  · rintro (h | ⟨b, o, rfl, hlt, hc⟩)
    · exact .inl (catL_nil (slpV_len f) (by decide) h)
    · exact .inr ⟨b, o, rfl, hlt, fun i hi => ⟨hc _ _ (catL_get (slpV_len f) (j := 0) (by decide) n hi), hc _ _ (catL_get (slpV_len f) (j := 1) (by decide) n hi), hc _ _ (catL_get (slpV_len f) (j := 2) (by decide) n hi), hc _ _ (catL_get (slpV_len f) (j := 3) (by decide) n hi)⟩⟩
/-! ### A row at hand -/
theorem AtHand.row {N : Nat} {e : TypeId} {size n : Nat} {xs : List Value} {w : World} {v : Value} (h : AtHand N e size n xs w v) : ∃ A c, v = .slice A n c ∧ RowAt w A xs := by
  rcases h with ⟨rfl, rfl, g, rfl⟩ | ⟨hn, ho⟩
  · exact ⟨_, _, rfl, .inl rfl⟩
  · obtain ⟨g, cap, rfl⟩ := owns_form ho hn
    rcases id ho.2 with ⟨h, _⟩ | ⟨g', _, _, e, _, hb, _⟩
    · cases h
    · injection e with e1
      injection e1 with e1
      injection e1 with e1
      subst e1
      exact ⟨_, _, rfl, .inr ⟨g, 0, rfl, (Array.getElem?_eq_some_iff.1 hb).1, fun j u hj => by have := ho.cells (g := g) rfl j u hj; rwa [show (⟨g, 0, none⟩ : Addr).add j = ⟨g, 0 + j, none⟩ from by unfold Addr.add; split <;> simp_all] at this⟩⟩
theorem AtHand.below {N : Nat} {e : TypeId} {size n : Nat} {xs : List Value} {w w' : World} {v : Value} (hb : Below w.heap.size w w') (h : AtHand N e size n xs w v) : AtHand N e size n xs w' v :=
  h.imp id fun h => ⟨h.1, owns_below h.2 hb⟩
theorem AtHand.aboveH {N : Nat} {e : TypeId} {size n : Nat} {xs : List Value} {w w' : World} {v : Value} (ha : AboveH N w w') (h : AtHand N e size n xs w v) : AtHand N e size n xs w' v :=
  h.imp id fun h => ⟨h.1, h.2.1, h.2.2.imp id fun ⟨g, cap, cur, h1, h2, h3, h4⟩ => ⟨g, cap, cur, h1, h2, (ha.block g h2 (Array.getElem?_eq_some_iff.1 h3).1).trans h3, h4⟩⟩
theorem AtHand.lower {N M : Nat} {e : TypeId} {size n : Nat} {xs : List Value} {w : World} {v : Value} (hm : M ≤ N) (h : AtHand N e size n xs w v) : AtHand M e size n xs w v :=
  h.imp id fun h => ⟨h.1, owns_lower h.2 hm⟩
/-- 'append(row, xs...)' of a row at hand, in the order of the text -/
theorem wpList_append_hand {P : Program} (w : World) {ops : Array Oper} {rest : List Oper} {o : Oper} {a : Act} {Q : Exit → Act → World → Prop} (hg : o.guard = none) (s x : Operand) (t : TypeId) (hop : o.op = Op.call { callee := Callee.builtin Builtin.append, args := #[s, x], argTypes := #[t, t] })
    (e : TypeId) (z : Value) (size bytes : Nat) (hinfo : (P.info? e).map (fun i => (i.zero, i.size, i.bytes)) = some (some z, size, bytes)) (ht : P.underlying t = some (.slice e)) (hzs : z.cells.size = size) (hsz : 0 < size)
    (v : Value) (n : Nat) (xs : List Value) (A : Option Addr) (m c : Nat) (L : List Value) (N : Nat) (hv : AtHand N e size n xs w v) (hs : a.eval s = v) (hx : a.eval x = .slice A m c) (hm : 0 < m) (hl : L.length = m * size) (hr : RowAt w A L) (h1 : ∀ u ∈ L, u.oneCell' = true) (h63 : n + m ≤ 1000000) (hby : bytes ≤ 1000000) (hN : N ≤ w.heap.size)
    (hK : ∀ g c' w', RowOn N e size n w w' → w'.ownsRow N e size (.slice (some ⟨g, 0, none⟩) (n + m) c') (n + m) (xs ++ L) → wpList P ops Q rest (a.put o.dst (.slice (some ⟨g, 0, none⟩) (n + m) c')) w') : wpList P ops Q (o :: rest) a w := by
  refine wpList_plain hg fun K hK' => Oper.wp_of_stir (stir_append w s x t hop e z size bytes hinfo ht hzs hsz v n xs A m c L N hv hs hx hm hl hr h1 h63 hby hN) fun v' w' hon ⟨hsh, hown⟩ => ?_
  obtain ⟨g, c', rfl⟩ := hsh
  exact hK' _ _ (hK _ _ _ hon hown)
def noStir : List Stir → Prop
  | [] => True
  | .stir _ _ _ :: _ => False
  | _ :: l => noStir l
theorem noStir_of : ∀ (l : List Stir), noStir l → ∀ (i : Nat) (s : Value → Prop) (r : World → Value → Prop) (K : World → World → Prop), l[i]? ≠ some (Stir.stir s r K)
  | [], _, i, s, r, K => by simp
  | x :: l, hn, i, s, r, K => by
    cases x with
    | const c =>
      cases i with
      | zero => intro h; simp at h
      | succ i => rw [List.getElem?_cons_succ]; exact noStir_of l hn i s r K
    | held s' r' =>
      cases i with
      | zero => intro h; simp at h
      | succ i => rw [List.getElem?_cons_succ]; exact noStir_of l hn i s r K
    | stir s' r' K' => exact hn.elim
theorem crossAll_no (md : Region.Mode) (ops : Array Oper) (N : Nat) (hs : List Stir) (h : noStir hs) : crossAll md ops N hs := fun i s r K hi => absurd hi (noStir_of hs h i s r K)
end Go.Proofs.YtdboicnlkbnbnaaDoor
