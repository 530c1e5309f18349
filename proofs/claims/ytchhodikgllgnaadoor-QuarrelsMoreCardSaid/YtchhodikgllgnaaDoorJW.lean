/- Parts joined. -/
import Derived.Test.YtchhodikgllgnaaDoorJM
import Derived.Test.YtchhodikgllgnaaDoorJL
import Derived.Test.YtchhodikgllgnaaDoorJR
import Derived.Test.YtchhodikgllgnaaDoorJV
import Derived.Test.YtchhodikgllgnaaDoorJK
import Derived.Test.YtchhodikgllgnaaDoorJS
import Derived.Test.YtchhodikgllgnaaDoorJT
set_option linter.unusedSimpArgs false
set_option linter.unusedVariables false
/- Walks of the reference 05: lists. Conditions: at most 16 tests. -/
namespace Go.Proofs.YtchhodikgllgnaaDoor
open Go.RowKit Go.Sort
/-! ### An append to a row of the call's own: where the row lies afterwards -/
theorem run_append_own2 {P : Program} (w : World) (base : Nat) (t ty e : TypeId) (i : TypeInfo) (z : Value) (size bytes : Nat) (ht : P.underlying t = some (.slice e)) (hi : P.info? e = some i) (hz : i.zero = some z)
    (hsize : i.size = size) (hby : i.bytes = bytes) (hzs : z.cells.size = size) (hsz : 0 < size)
    (v : Value) (n : Nat) (xs : List Value) (hown : w.ownsRow base e size v n xs)
    (a : Addr) (m c : Nat) (news : List Value) (hl : news.length = m * size) (hnews : ∀ j u, news[j]? = some u → w.cell? (a.add j) = some u) (h1 : ∀ u ∈ news, u.oneCell' = true)
    (h63 : n + m ≤ maxLen) (hbytes : (n + m) * bytes ≤ 140737488355328) (hbase : base ≤ w.heap.size) :
    ∃ v' w', (Builtin.append_ #[t, t] ty #[v, .slice (some a) m c]).run P w = .ok v' w' ∧ w'.ownsRow base e size v' (n + m) (xs ++ news) ∧ w.grownBy w' v.ownBlock ∧ (v'.ownBlock = v.ownBlock ∨ ∀ g, v'.ownBlock = some g → w.heap.size ≤ g) := by
  obtain ⟨v', w', hr, h2, h3, _⟩ := run_append_own (P := P) w base t ty e i z size bytes ht hi hz hsize hby hzs hsz v n xs hown a m c news hl hnews h1 h63 hbytes hbase
  refine ⟨v', w', hr, h2, h3, ?_⟩
  rcases id hown.2 with ⟨rfl, rfl⟩ | ⟨g, cap, cur, rfl, hbg, hg, hnc, hcm, hcs, htake⟩
  · have hx : xs = [] := List.eq_nil_of_length_eq_zero (by simpa using hown.1)
    subst hx
    obtain ⟨v2, w2, hr2, h4, _, _⟩ := run_append_own (P := P) w w.heap.size t ty e i z size bytes ht hi hz hsize hby hzs hsz (.slice none 0 0) 0 [] (World.ownsRow_nil _ _ _ _) a m c news hl hnews h1 h63 hbytes (Nat.le_refl _)
    rw [hr] at hr2
    injection hr2 with e1 e2
    subst e1 e2
    exact .inr fun g hg => (owns_typed h4 g hg).1
  · by_cases hroom : n + m ≤ cap
    · have hfit : n * size + news.length ≤ cur.size := by rw [hl, hcs, ← Nat.add_mul]; exact Nat.mul_le_mul_right _ hroom
      have hr2 := run_append_room (P := P) w t ty e i ht hi g n cap cur hg a m c news (by rw [hl, hsize]) hnews h1 hroom (by rw [hsize]; exact hfit)
      rw [hr] at hr2
      injection hr2 with e1 e2
      subst e1
      exact .inl rfl
    · obtain ⟨v2, w2, hr2, h4, _⟩ := run_append_arg_grows (P := P) w t ty e i z size bytes ht hi hz hsize hby hzs hsz ⟨g, 0, none⟩ n cap xs hown.1 (fun j u h => hown.cells (g := g) rfl j u h) a m c news hl hnews (by omega) h63 hbytes
      rw [hr] at hr2
      injection hr2 with e1 e2
      subst e1 e2
      exact .inr fun g hg => (owns_typed h4 g hg).1
/-- 'append(out, xs...)' of a slice of the call's own, as the one operation of a region, with where it lies -/
theorem stir_own2 {P : Program} {o : Oper} {a : Act} {w : World} {R : World → Value → Prop} (s x : Operand) (t : TypeId) (hop : o.op = Op.call { callee := Callee.builtin Builtin.append, args := #[s, x], argTypes := #[t, t] })
    (base : Nat) (e : TypeId) (z : Value) (size bytes : Nat) (hinfo : (P.info? e).map (fun i => (i.zero, i.size, i.bytes)) = some (some z, size, bytes)) (ht : P.underlying t = some (.slice e)) (hzs : z.cells.size = size) (hsz : 0 < size)
    (v : Value) (n : Nat) (xs : List Value) (hs : a.eval s = v) (hown : w.ownsRow base e size v n xs) (ad : Addr) (m c : Nat) (news : List Value) (hx : a.eval x = .slice (some ad) m c) (hl : news.length = m * size) (hnews : ∀ j u, news[j]? = some u → w.cell? (ad.add j) = some u) (h1 : ∀ u ∈ news, u.oneCell' = true)
    (h63 : n + m ≤ maxLen) (hbytes : (n + m) * bytes ≤ 140737488355328) (hbase : base ≤ w.heap.size)
    (h : ∀ v' w', w'.ownsRow base e size v' (n + m) (xs ++ news) → w.grownBy w' v.ownBlock → (v'.ownBlock = v.ownBlock ∨ ∀ g, v'.ownBlock = some g → w.heap.size ≤ g) → R w' v') : Oper.stirAt P o a w (fun _ _ => True) R := by
  obtain ⟨i0, hi, iz0, iz1, iz2⟩ := info_parts hinfo
  obtain ⟨v', w', hrun, h2, h3, h4⟩ := run_append_own2 (P := P) w base t o.type e i0 z size bytes ht hi iz0 iz1 iz2 hzs hsz v n xs hown ad m c news hl hnews h1 h63 hbytes hbase
  unfold Oper.stirAt
  simp only [execOp, hop, resolve, invoke, builtin, List.map_toArray, List.map_cons, List.map_nil, hs, hx, hrun, Result.andThen, Sem.run_bind, Sem.run_pure, Oper.stirUpon]
  exact ⟨trivial, h v' w' h2 h3 h4⟩
/-- 'append([]T{x}, xs...)' at a step of a region -/
theorem stir_cons {P : Program} {o : Oper} {a : Act} (w : World) (s x : Operand) (t : TypeId) (hop : o.op = Op.call { callee := Callee.builtin Builtin.append, args := #[s, x], argTypes := #[t, t] })
    (e : TypeId) (z : Value) (size bytes : Nat) (hinfo : (P.info? e).map (fun i => (i.zero, i.size, i.bytes)) = some (some z, size, bytes)) (ht : P.underlying t = some (.slice e)) (hzs : z.cells.size = size) (hsz : 0 < size)
    (ad : Nat) (xs : List Value) (hxs : xs.length = size) (A : Option Addr) (m c : Nat) (L : List Value) (hs : a.eval s = .slice (some ⟨ad, 0, none⟩) 1 1) (hb : RowK w (some ⟨ad, 0, none⟩) e xs) (hx : a.eval x = .slice A m c) (hl : L.length = m * size) (hr : RowAt w A L) (h63 : m ≤ 100000) (hby : bytes ≤ 1000000) :
    Oper.stirAt P o a w Newer (fun w' v => ShapeOf (m + 1) v ∧ ∃ A c, v = .slice A (m + 1) c ∧ RowK w' A e (xs ++ L)) := by
  obtain ⟨i0, hi, iz0, iz1, iz2⟩ := info_parts hinfo
  have hcell : ∀ j u, xs[j]? = some u → w.cell? ((⟨ad, 0, none⟩ : Addr).add j) = some u := fun j u hj => by
    rcases hb.row with h | ⟨b, o, e1, _, hc⟩
    · rw [h] at hxs; simp at hxs; omega
    · injection e1 with e1
      injection e1 with e1 e2
      subst e1 e2
      rw [show (⟨ad, 0, none⟩ : Addr).add j = ⟨ad, 0 + j, none⟩ from by unfold Addr.add; split <;> simp_all]
      exact hc j u hj
  rcases Nat.eq_zero_or_pos m with h0 | h0
  · subst h0
    obtain rfl : L = [] := List.eq_nil_of_length_eq_zero (by simpa using hl)
    have hrun : (Builtin.append_ #[t, t] o.type #[.slice (some ⟨ad, 0, none⟩) 1 1, .slice A 0 c]).run P w = .ok (.slice (some ⟨ad, 0, none⟩) 1 1) w := by
      cases A with
      | none => simp [Builtin.append_, run_underlying ht, sizeOf, typeInfo, hi, Builtin.lenOf, Builtin.firstCells, storeCells]
      | some a =>
        have hfc := run_firstCells_some (P := P) w i0.size 0 a 0 c [] (by simp) (fun j u h => by simp at h)
        simp [Builtin.append_, run_underlying ht, sizeOf, typeInfo, hi, Builtin.lenOf, hfc, storeCells]
    unfold Oper.stirAt
    simp only [execOp, hop, resolve, invoke, builtin, List.map_toArray, List.map_cons, List.map_nil, hs, hx, hrun, Result.andThen, Sem.run_bind, Sem.run_pure, Oper.stirUpon]
    exact ⟨Below.refl _ _, ⟨_, _, rfl⟩, _, _, rfl, by rw [List.append_nil]; exact hb⟩
  · rcases hr with hr | ⟨b, o', rfl, hlt, hc⟩
    · rw [hr] at hl
      have := Nat.mul_pos h0 hsz
      simp only [List.length_nil] at hl
      omega
    · have hbytes : (1 + m) * bytes ≤ 140737488355328 := Nat.le_trans (Nat.mul_le_mul (show 1 + m ≤ 100001 by omega) hby) (by decide)
      obtain ⟨v', w', hrun, hown, hg⟩ := run_append_arg_grows (P := P) w t o.type e i0 z size bytes ht hi iz0 iz1 iz2 hzs hsz ⟨ad, 0, none⟩ 1 1 xs (by rw [hxs, Nat.one_mul]) hcell ⟨b, o', none⟩ m c L hl (fun j u h => by
        rw [show (⟨b, o', none⟩ : Addr).add j = ⟨b, o' + j, none⟩ from by unfold Addr.add; split <;> simp_all]; exact hc j u h) (by omega) (by unfold maxLen; omega) hbytes
      obtain ⟨g, cap, rfl⟩ := owns_form hown (by omega)
      obtain ⟨A1, c1, e1, h1⟩ := RowK.own hown
      unfold Oper.stirAt
      simp only [execOp, hop, resolve, invoke, builtin, List.map_toArray, List.map_cons, List.map_nil, hs, hx, hrun, Result.andThen, Sem.run_bind, Sem.run_pure, Oper.stirUpon]
      rw [Nat.add_comm m 1]
      exact ⟨below_grown hg, ⟨_, _, rfl⟩, A1, c1, e1, h1⟩
/-! ### Lists of lists of tests -/
def TRow (w : World) (u : Value) (l : List Tp) : Prop := ∃ A c, u = .slice A l.length c ∧ RowK w A 27 (tstE.cells l)
theorem TRow.kept {ts : List TypeId} {w w' : World} {u : Value} {l : List Tp} (h : TRow w u l) (hk : Kept ts w w') (ht : 27 ∈ ts) : TRow w' u l := by
  obtain ⟨A, c, e, hr⟩ := h
  exact ⟨A, c, e, hr.kept hk ht⟩
def TRows (w : World) (LL : List (List Tp)) (us : List Value) : Prop := us.length = LL.length ∧ ∀ (j : Nat) (u : Value) (l : List Tp), us[j]? = some u → LL[j]? = some l → TRow w u l
theorem TRows.kept {ts : List TypeId} {w w' : World} {LL : List (List Tp)} {us : List Value} (h : TRows w LL us) (hk : Kept ts w w') (ht : 27 ∈ ts) : TRows w' LL us := ⟨h.1, fun j u l h1 h2 => (h.2 j u l h1 h2).kept hk ht⟩
theorem TRows.snoc {w : World} {LL : List (List Tp)} {us : List Value} {u : Value} {l : List Tp} (h : TRows w LL us) (hu : TRow w u l) : TRows w (LL ++ [l]) (us ++ [u]) :=
  ⟨by rw [List.length_append, List.length_append, h.1]; rfl, fun j v l' h1 h2 => by
    rcases Nat.lt_or_ge j us.length with hlt | hge
    · rw [List.getElem?_append_left hlt] at h1
      rw [List.getElem?_append_left (by rw [← h.1]; exact hlt)] at h2
      exact h.2 j v l' h1 h2
    · rw [List.getElem?_append_right hge] at h1
      rw [List.getElem?_append_right (by rw [← h.1]; exact hge), ← h.1] at h2
      have h0 : j - us.length = 0 := by
        have := (List.getElem?_eq_some_iff.1 h1).1
        simp only [List.length_cons, List.length_nil] at this
        omega
      rw [h0] at h1 h2
      simp at h1 h2
      subst h1 h2
      exact hu⟩
/-- a list of lists of tests, of the call's own -/
def ListsAt (w : World) (base : Nat) (v : Value) (LL : List (List Tp)) : Prop := ∃ us, w.ownsRow base 34 1 v LL.length us ∧ TRows w LL us
theorem ListsAt.mono {w w' : World} {base : Nat} {v : Value} {LL : List (List Tp)} (h : ListsAt w base v LL) (hb : Below w.heap.size w w') : ListsAt w' base v LL := by
  obtain ⟨us, h1, h2⟩ := h
  exact ⟨us, owns_below h1 hb, h2.kept (Kept.of_below (l := [27]) hb) (by simp)⟩
theorem ListsAt.lower {w : World} {base base' : Nat} {v : Value} {LL : List (List Tp)} (h : ListsAt w base v LL) (hb : base' ≤ base) : ListsAt w base' v LL := by
  obtain ⟨us, h1, h2⟩ := h
  exact ⟨us, owns_lower h1 hb, h2⟩
theorem infoTs : (Tryd.prog.info? 34).map (fun i => (i.zero, i.size, i.bytes)) = some (some (.slice none 0 0), 1, 24) := by kernel_rfl
theorem infoT : (Tryd.prog.info? 27).map (fun i => (i.zero, i.size, i.bytes)) = some (some (.agg #[.int .i64 0, .int .i64 0]), 2, 16) := by kernel_rfl
/-- the lists that begin with one of n tests, from a place on -/
def listsTo (tl : List Tp) (k from_ : Nat) : Nat → List (List Tp)
  | 0 => []
  | n + 1 => listsTo tl k from_ n ++ (listsL (tl.drop (from_ + n + 1)) k).map (tget tl (from_ + n) :: ·)
theorem listsTo_eq (tl : List Tp) (k from_ : Nat) : ∀ n, from_ + n ≤ tl.length → listsL (tl.drop from_) (k + 1) = listsTo tl k from_ n ++ listsL (tl.drop (from_ + n)) (k + 1)
  | 0, _ => rfl
  | n + 1, h => by
    have ih := listsTo_eq tl k from_ n (by omega)
    rw [ih, List.drop_eq_getElem_cons (show from_ + n < tl.length by omega)]
    show _ = (listsTo tl k from_ n ++ (listsL (tl.drop (from_ + n + 1)) k).map (tget tl (from_ + n) :: ·)) ++ _
    rw [List.append_assoc]
    congr 1
    show (listsL (tl.drop (from_ + n + 1)) k).map (tl[from_ + n] :: ·) ++ listsL (tl.drop (from_ + n + 1)) (k + 1) = _
    have e : tget tl (from_ + n) = tl[from_ + n] := by unfold tget; rw [List.getElem?_eq_getElem (by omega)]; rfl
    rw [e]
    rfl
theorem listsTo_all (tl : List Tp) (k from_ n : Nat) (h : from_ + n = tl.length) : listsTo tl k from_ n = listsL (tl.drop from_) (k + 1) := by
  rw [listsTo_eq tl k from_ n (by omega), h, List.drop_length]
  show _ = _ ++ listsL [] (k + 1)
  rw [show listsL [] (k + 1) = [] from rfl, List.append_nil]
theorem listsL_count : ∀ (l : List Tp) (k : Nat), (listsL l k).length ≤ 2 ^ l.length
  | l, 0 => by rw [listsL_zero]; exact Nat.one_le_two_pow
  | [], k + 1 => Nat.zero_le _
  | x :: l, k + 1 => by
    have h1 := listsL_count l k
    have h2 := listsL_count l (k + 1)
    show ((listsL l k).map (x :: ·) ++ listsL l (k + 1)).length ≤ 2 ^ (l.length + 1)
    rw [List.length_append, List.length_map, Nat.pow_succ]
    omega
theorem listsL_small {l : List Tp} (h : l.length ≤ 16) (k : Nat) : (listsL l k).length ≤ 65536 :=
  Nat.le_trans (listsL_count l k) (Nat.le_trans (Nat.pow_le_pow_right (by decide) h) (by decide))
theorem listsTo_small {tl : List Tp} (h : tl.length ≤ 16) {k from_ n : Nat} (hn : from_ + n < tl.length) : (listsTo tl k from_ n).length + (listsL (tl.drop (from_ + n + 1)) k).length ≤ 65536 := by
  have h1 := listsTo_eq tl k from_ (n + 1) (by omega)
  have h2 := listsL_small (l := tl.drop from_) (by rw [List.length_drop]; omega) (k + 1)
  rw [h1, show listsTo tl k from_ (n + 1) = listsTo tl k from_ n ++ (listsL (tl.drop (from_ + n + 1)) k).map (tget tl (from_ + n) :: ·) from rfl] at h2
  rw [List.length_append, List.length_append, List.length_map] at h2
  omega
def newT (xs : List Value) (w : World) (v : Value) : Prop := ∀ b, v = .slice (some ⟨b, 0, none⟩) 1 1 → RowK w (some ⟨b, 0, none⟩) 27 xs
theorem newT_G {xs : List Value} : (Stir.held one1 (newT xs)).good := ⟨⟨_, 0, rfl⟩, fun _ _ _ hb h b e => (h b e).mono hb⟩
def rowT (n : Nat) (L : List Value) (w : World) (v : Value) : Prop := ∃ A c, v = .slice A n c ∧ RowK w A 27 L
theorem rowT_G {n : Nat} {L : List Value} : (Stir.held (ShapeOf n) (rowT n L)).good := ⟨⟨_, 0, 0, rfl⟩, fun _ _ _ hb h => by obtain ⟨A, c, e, hr⟩ := h; exact ⟨A, c, e, hr.mono hb⟩⟩
def cellT (l : List Tp) (w : World) (v : Value) : Prop := ∀ b, v = .slice (some ⟨b, 0, none⟩) 1 1 → ∃ u, w.cell? ⟨b, 0, none⟩ = some u ∧ TRow w u l ∧ u.oneCell' = true
theorem cellT_G {l : List Tp} : (Stir.held one1 (cellT l)).good := ⟨⟨_, 0, rfl⟩, fun _ _ _ hb h b e => by
  obtain ⟨u, h1, h2, h3⟩ := h b e
  exact ⟨u, (hb.cell (World.block_lt_of_cell? _ _ h1)).trans h1, h2.kept (Kept.of_below (l := [27]) hb) (by simp), h3⟩⟩
/-- two rows that do not lie in one block -/
def ApartV (V : Value) (A : Option Addr) : Prop := ∀ g b, V.ownBlock = some g → A = some b → g ≠ b.block
set_option maxHeartbeats 4000000 in
set_option maxRecDepth 100000 in
theorem lists5_any (tl : List Tp) (A : Option Addr) (c : Nat) (h16 : tl.length ≤ 16) : ∀ (many from_ : Nat) (w : World), many ≤ 100 → from_ ≤ tl.length → RowAt w A (tstE.cells tl) →
    Calls Tryd.prog 82 #[.slice A tl.length c, .int .i64 (from_ : Int), .int .i64 (many : Int)] w fun e w' => (∃ v, e = .returned v ∧ ListsAt w' w.heap.size v (listsL (tl.drop from_) many)) ∧ Below w.heap.size w w' := by
  intro many
  induction many with
  | zero =>
    intro from_ w hm hf hA
    go_enter Tryd.func82, Tryd.ntmps82
    go_wp2_with fail
    go_ret
    refine ⟨⟨_, rfl, ?_⟩, bAlloc (Below.refl _ _) _⟩
    rw [listsL_zero]
    exact ⟨[.slice none 0 0], World.ownsRow_lit (base := w.heap.size) (e := 34) (size := 1) w #[.slice none 0 0] 1 (Nat.le_refl _) (by decide) rfl, rfl, fun j u l h1 h2 => by
      match j, h1, h2 with
      | 0, h1, h2 =>
        simp at h1 h2
        subst h1 h2
        exact ⟨none, 0, rfl, .inl rfl⟩⟩
  | succ many ih =>
    intro from_ w hm hf hA
    have HA := Lib.hid hA
    have HIH := Lib.hid (fun (f : Nat) (w' : World) (h1 : f ≤ tl.length) (h2 : RowAt w' A (tstE.cells tl)) => ih f w' (by omega) h1 h2)
    have HM := Lib.hid hm
    obtain ⟨N, hN⟩ : ∃ N, tl.length = N := ⟨_, rfl⟩
    have HN := Lib.hid hN
    rw [hN] at h16 hf ⊢
    have hmz : ((many + 1 : Nat) : Int) = (many : Int) + 1 := by omega
    have hm0 : ((many : Int) + 1 == 0) = false := by simp; omega
    have hmy : many ≤ 99 := by omega
    rw [hmz]
    clear ih hA hm hN hmz
    go_enter Tryd.func82, Tryd.ntmps82
    go_wp2_with fail
    go_loopw [7, 8] (fun s7 s8 wr => ∃ (n : Nat) (us : List Value), from_ + n ≤ N ∧ s8 = .int .i64 ((from_ + n : Nat) : Int) ∧ wr.ownsRow w.heap.size 34 1 s7 (listsTo tl many from_ n).length us ∧ TRows wr (listsTo tl many from_ n) us ∧ Below w.heap.size w wr) (fun _ s _ => N - (intOf s).toNat)
    case atStart => exact ⟨0, [], by omega, by rw [Nat.add_zero], World.ownsRow_nil _ _ _ _, ⟨rfl, fun j u l h1 _ => by simp at h1⟩, Below.refl _ _⟩
    case round =>
      obtain ⟨n, us, hn, rfl, hown, hrows, hbel⟩ := hrel
      have HO := Lib.hid hown
      have HR := Lib.hid hrows
      have HL := Lib.hid hbel
      obtain ⟨f, hf2⟩ : ∃ f, from_ + n = f := ⟨_, rfl⟩
      have HF := Lib.hid hf2
      rw [hf2] at hn ⊢
      clear hown hrows hbel hf2
      by_cases hlt : f < N
      · have f1 : (f : Int) < (N : Int) := by omega
        have f0 : (0 : Int) ≤ (f : Int) := by omega
        obtain ⟨LL, hLL⟩ : ∃ LL, listsL (tl.drop (f + 1)) many = LL := ⟨_, rfl⟩
        have HC := Lib.hid (by
          have := HIH.out (f + 1) wr (by rw [HN.out]; omega) (HA.out.mono HL.out)
          rw [HN.out, hLL, show ((f + 1 : Nat) : Int) = (f : Int) + 1 by omega] at this
          exact this : Calls Tryd.prog 82 #[.slice A N c, .int .i64 ((f : Int) + 1), .int .i64 (many : Int)] wr fun e w' => (∃ v, e = .returned v ∧ ListsAt w' wr.heap.size v LL) ∧ Below wr.heap.size wr w')
        have HLL := Lib.hid hLL
        obtain ⟨m, hm⟩ : ∃ m, LL.length = m := ⟨_, rfl⟩
        have HMM := Lib.hid hm
        have HSM := Lib.hid (show (listsTo tl many from_ n).length + m ≤ 65536 by
          have := listsTo_small (tl := tl) (k := many) (from_ := from_) (n := n) (by rw [HN.out]; exact h16) (by rw [HF.out, HN.out]; exact hlt)
          rw [HF.out, hLL, hm] at this
          exact this)
        have hm65 : m ≤ 65536 := by have := HSM.out; omega
        clear hLL hm
        go_wp2_with fail
        refine HC.out.mono ?_
        rintro e w2 ⟨⟨v, rfl, us2, ho2, hr2⟩, hb2⟩
        rw [HMM.out] at ho2
        have hV0 := fun g hg => (owns_typed ho2 g hg).1
        obtain ⟨A2, c2, rfl, hk2⟩ := RowK.own ho2
        have HV2 := Lib.hid hk2.row
        have HR2 := Lib.hid hr2
        have HO2 := Lib.hid (owns_below HO.out hb2)
        have HRW2 := Lib.hid (HR.out.kept (Kept.of_below (l := [27]) hb2) (by simp))
        have HB2 := Lib.hid (HL.out.trans (hb2.mono HL.out.size))
        have HAP := Lib.hid (show ApartV u7 A2 from fun g b h1 h2 e => by
          have h3 := HO.out.lt g h1
          subst h2
          have := hV0 b.block rfl
          omega)
        clear ho2 hr2 hb2 hV0 hk2 HC
        go_wp2_with fail
        go_loopw [7, 10] (fun s7 s10 wx => ∃ (k : Nat) (us : List Value), k ≤ m ∧ s10 = .int .i64 (k : Int) ∧ wx.ownsRow w.heap.size 34 1 s7 (listsTo tl many from_ n ++ (LL.take k).map (tget tl f :: ·)).length us ∧ TRows wx (listsTo tl many from_ n ++ (LL.take k).map (tget tl f :: ·)) us ∧ RowAt wx A2 us2 ∧ TRows wx LL us2 ∧ ApartV s7 A2 ∧ Below w.heap.size w wx) (fun _ s _ => m - (intOf s).toNat)
        case atStart => exact ⟨0, us, Nat.zero_le _, rfl, by simpa using HO2.out, by simpa using HRW2.out, HV2.out, HR2.out, HAP.out, HB2.out⟩
        case round =>
          obtain ⟨k, ws, hk, rfl, hown, hrows, hrv, hrl, hap, hbel⟩ := hrel
          have HOX := Lib.hid hown
          have HRX := Lib.hid hrows
          have HVX := Lib.hid hrv
          have HLX := Lib.hid hrl
          have HAX := Lib.hid hap
          have HBX := Lib.hid hbel
          clear hown hrows hrv hrl hap hbel
          by_cases hlk : k < m
          · obtain ⟨l, hl⟩ : ∃ l, LL[k]? = some l := ⟨_, List.getElem?_eq_getElem (by rw [HMM.out]; exact hlk)⟩
            obtain ⟨u, hu⟩ : ∃ u, us2[k]? = some u := ⟨_, List.getElem?_eq_getElem (by rw [HLX.out.1, HMM.out]; exact hlk)⟩
            obtain ⟨Au, cu, rfl, hru⟩ := HLX.out.2 k u l hu hl
            rcases HVX.out with h0 | ⟨b2, o2, rfl, hb2, hc2⟩
            · rw [h0] at hu; simp at hu
            have d0 := hc2 k _ hu
            obtain ⟨x, hx⟩ : ∃ x, tl[f]? = some x := ⟨_, List.getElem?_eq_getElem (by rw [HN.out]; exact hlt)⟩
            obtain ⟨b, o, rfl, hb, c0, c1⟩ := SliceE.tst (HA.out.mono HBX.out) hx
            have hxt : tget tl f = x := by unfold tget; rw [hx]; rfl
            have HRU := Lib.hid hru
            have k1 : (k : Int) < (m : Int) := by omega
            have k0 : (0 : Int) ≤ (k : Int) := by omega
            obtain ⟨nl, hnl⟩ : ∃ nl, l.length = nl := ⟨_, rfl⟩
            have hl16 : nl ≤ 16 := by
              have h1 := List.mem_of_getElem? hl
              rw [← HLL.out] at h1
              have h2 := (listsL_mem.1 h1).1.length_le
              rw [List.length_drop, HN.out] at h2
              omega
            have HNL := Lib.hid hnl
            rw [hnl] at d0
            have HST := Lib.hid (show listsTo tl many from_ n ++ (LL.take (k + 1)).map (tget tl f :: ·) = (listsTo tl many from_ n ++ (LL.take k).map (tget tl f :: ·)) ++ [tget tl f :: l] by
              rw [List.take_add_one, hl]
              simp)
            have HSZ := Lib.hid (show (listsTo tl many from_ n ++ (LL.take k).map (tget tl f :: ·)).length ≤ 65536 by
              have h1 := HSM.out
              have h2 := List.length_take_le k LL
              have h3 := HMM.out
              rw [List.length_append, List.length_map]
              omega)
            obtain ⟨p, q⟩ := x
            have HXT := Lib.hid hxt
            obtain ⟨LN, hLN⟩ : ∃ LN, listsTo tl many from_ n ++ (LL.take k).map (tget tl f :: ·) = LN := ⟨_, rfl⟩
            rw [hLN] at HOX HRX HST HSZ
            obtain ⟨z, hz⟩ : ∃ z, LN.length = z := ⟨_, rfl⟩
            rw [hz] at HOX HSZ
            have HZZ := Lib.hid hz
            clear hru hl hu hc2 hx hxt hnl hLN hz
            go_wp2_with fail
            refine wp_region_pin 12 [.const u7, .const (.slice (some ⟨b, o, none⟩) N c), .const (.int .i64 f), .const (.pointer (some ⟨b, o + f * 2, none⟩)), .const (.agg #[.int .i64 (p : Int), .int .i64 (q : Int)]), .held one1 (newT [.int .i64 (p : Int), .int .i64 (q : Int)]), .const (.slice (some ⟨b2, o2, none⟩) m c2), .const (.int .i64 k), .const (.pointer (some ⟨b2, o2 + k, none⟩)), .const (.slice Au nl cu), .held (ShapeOf (nl + 1)) (rowT (nl + 1) (tstE.cells ((p, q) :: l))), .held one1 (cellT ((p, q) :: l))]
              [] (by kernel_rfl) (by kernel_rfl) rfl ⟨trivial, trivial, trivial, trivial, trivial, newT_G, trivial, trivial, trivial, trivial, rowT_G, cellT_G, trivial⟩ (crossAll_no _ _ _ _ trivial) rfl rfl (fun j u hj => by simp at hj) ?_
            iterate 5 refine wpStir_const (by go_simp) ?_
            refine wpStir_held rfl (fun w' hb hd => ?_) (fun v hv => ?_)
            · clear hd
              go_simp
              refine ⟨bAlloc (Below.refl _ _) _, ⟨_, rfl⟩, fun b' e' => ?_⟩
              obtain rfl : w'.heap.size = b' := by simpa using e'
              exact .inr ⟨_, 0, _, _, rfl, heap_alloc_new _ _, fun j u hj => by simpa using hj⟩
            obtain ⟨bn, rfl⟩ := hv
            iterate 4 refine wpStir_const (by go_simp) ?_
            simp only [Act.put, List.setIfInBounds_toArray, List.set_cons_succ, List.set_cons_zero]
            refine wpStir_held rfl (fun w' hb hd => ?_) (fun v hv => ?_)
            · have h1 : newT [.int .i64 (p : Int), .int .i64 (q : Int)] w' (.slice (some ⟨bn, 0, none⟩) 1 1) := hd.1 (by kernel_rfl)
              clear hd
              exact stir_cons w' (Operand.tmp 38) (Operand.tmp 42) 34 rfl 27 (.agg #[.int .i64 0, .int .i64 0]) 2 16 infoT Tryd.underlying34 rfl (by decide) bn [.int .i64 (p : Int), .int .i64 (q : Int)] rfl Au nl cu (tstE.cells l) rfl (h1 bn rfl) rfl (by rw [Elem.cells_len tstG, HNL.out]; rfl) ((HRU.out.mono hb).row) (by omega) (by decide)
            obtain ⟨b3, c3, rfl⟩ := hv
            refine wpStir_held rfl (fun w' hb hd => ?_) (fun v hv => ?_)
            · have h1 : rowT (nl + 1) (tstE.cells ((p, q) :: l)) w' (.slice (some ⟨b3, 0, none⟩) (nl + 1) c3) := hd.1 (by kernel_rfl)
              clear hd
              obtain ⟨A3, c4, e3, h3⟩ := h1
              injection e3 with e3 _ e4
              subst e3 e4
              go_simp
              refine ⟨bAlloc (Below.refl _ _) _, ⟨_, rfl⟩, fun b' hb' => ?_⟩
              obtain rfl : w'.heap.size = b' := by simpa using hb'
              exact ⟨.slice (some ⟨b3, 0, none⟩) (nl + 1) c3, by simp [go_sem], ⟨some ⟨b3, 0, none⟩, c3, by simp [HNL.out], h3.mono (bAlloc (Below.refl _ _) _)⟩, rfl⟩
            obtain ⟨b4, rfl⟩ := hv
            simp only [Act.put, List.setIfInBounds_toArray, List.set_cons_succ, List.set_cons_zero]
            refine wpStir_end (fun w5 hb5 hd => ?_)
            obtain ⟨u4, h4, h5, h6⟩ := hd.1 b4 rfl
            clear hd
            have HO5 := Lib.hid (owns_below HOX.out hb5)
            have HR5 := Lib.hid (HRX.out.kept (Kept.of_below (l := [27]) hb5) (by simp))
            have HL5 := Lib.hid (HLX.out.kept (Kept.of_below (l := [27]) hb5) (by simp))
            have HV5 := Lib.hid (HVX.out.mono hb5)
            have HB5 := Lib.hid (HBX.out.trans (hb5.mono HBX.out.size))
            have HT5 := Lib.hid h5
            have HBZ := Lib.hid hb5.size
            have hlt5 := Nat.lt_of_lt_of_le hb2 hb5.size
            refine stir_own2 (Operand.tmp 33) (Operand.tmp 44) 109 rfl w.heap.size 34 (.slice none 0 0) 1 24 infoTs Tryd.underlying109 rfl (by decide) u7 z ws rfl HO5.out ⟨b4, 0, none⟩ 1 1 [u4] rfl rfl (news1 h4) (one1c h6) (by unfold maxLen; have := HSZ.out; omega) (by have := HSZ.out; omega) HB5.out.size (fun v' w6 hown6 hg6 hap6 => ?_)
            have HK6 := Lib.hid (Kept.of_own (l := [27]) hg6 HO5.out (by decide))
            have HR6 := Lib.hid ((HR5.out.snoc HT5.out).kept HK6.out (by simp))
            have HL6 := Lib.hid (HL5.out.kept HK6.out (by simp))
            have hne : u7.ownBlock ≠ some b2 := fun e => HAX.out b2 ⟨b2, o2, none⟩ e rfl rfl
            have HV6 := Lib.hid (show RowAt w6 (some ⟨b2, o2, none⟩) us2 from HV5.out.imp id fun ⟨b', o', e', hb', hc'⟩ => by
              injection e' with e'
              injection e' with e1 e2
              subst e1 e2
              exact ⟨b2, o2, rfl, Nat.lt_of_lt_of_le hb' hg6.size, fun j v hj => (cell_of_heap (hg6.block b2 hb' (fun e => hne e.symm)) _).trans (hc' j v hj)⟩)
            have HA6 := Lib.hid (show ApartV v' (some ⟨b2, o2, none⟩) from fun g b' h1 h2 e => by
              injection h2 with h2
              subst h2
              rcases hap6 with h3 | h3
              · rw [h3] at h1
                exact HAX.out g ⟨b2, o2, none⟩ h1 rfl e
              · have := h3 g h1
                have e' : g = b2 := e
                omega)
            have HB6 := Lib.hid (HB5.out.grown hg6 HB5.out.size (fun q hq => (HO5.out.lt q hq).1))
            have HO6 := Lib.hid hown6
            obtain ⟨A6, c6, rfl, _⟩ := RowK.own hown6
            clear hown6 hg6 hap6 hne h4 h5 h6 hb5 hb2 hlt5 d0 c0 c1 hb
            simp only [putF, Act.put, List.setIfInBounds_toArray, List.set_cons_succ, List.set_cons_zero, List.drop_succ_cons, List.drop_zero]
            go_wp2_with fail
            go_roundw
            case rel =>
              refine ⟨k + 1, ws ++ [u4], by omega, ?_, ?_, ?_, HV6.out, HL6.out, HA6.out, HB6.out⟩
              · go_num
              · rw [HST.out, List.length_append, HZZ.out]
                exact HO6.out
              · rw [HST.out, HXT.out]
                exact HR6.out
            case measure => simp [intOf]; omega
          · obtain rfl : k = m := by omega
            have HE := Lib.hid (show listsTo tl many from_ n ++ (LL.take k).map (tget tl f :: ·) = listsTo tl many from_ (n + 1) by
              rw [List.take_of_length_le (by rw [HMM.out]; exact Nat.le_refl _)]
              show _ = listsTo tl many from_ n ++ (listsL (tl.drop (from_ + n + 1)) many).map (tget tl (from_ + n) :: ·)
              rw [HF.out, HLL.out])
            go_wp2_with fail
            go_roundw
            case rel =>
              refine ⟨n + 1, ws, by have := HF.out; omega, ?_, by rw [← HE.out]; exact HOX.out, by rw [← HE.out]; exact HRX.out, HBX.out⟩
              have := HF.out
              rw [show from_ + (n + 1) = f + 1 by omega]
              go_num
            case measure => simp [intOf]; omega
      · obtain rfl : f = N := by omega
        have HZ := Lib.hid (listsTo_all tl many from_ n (by rw [HF.out, HN.out]))
        go_wp2_with fail
        go_ret
        exact ⟨⟨_, rfl, us, by rw [← HZ.out]; exact HO.out, by rw [← HZ.out]; exact HR.out⟩, HL.out⟩
end Go.Proofs.YtchhodikgllgnaaDoor
/- Walks of the reference 05: Fewest. Conditions: lengths are Go's. -/
namespace Go.Proofs.YtchhodikgllgnaaDoor
open Go.RowKit Go.Sort
/-- what the reference hands back: a list of tests, and an error -/
def RefLst (w : World) (er : Int) (L : List Tp) (e : Ending) : Prop := (er = 0 → ∃ A c, e = .returned (.tuple #[.slice A L.length c, .int .i64 er]) ∧ RowAt w A (tstE.cells L)) ∧ (er ≠ 0 → e = .returned (.tuple #[.slice none 0 0, .int .i64 er]))
theorem firstUpTo_le {l : List Tp} {p : List Tp → Bool} {x : List Tp} {k : Nat} (h : firstUpTo l p 0 k = some x) : ∀ d, firstUpTo l p 0 (k + d) = some x
  | 0 => h
  | d + 1 => by
    have ih := firstUpTo_le h d
    show firstUpTo l p 0 (k + d + 1) = _
    rw [firstUpTo_snoc, ih]
theorem fewestL_at {l : List Tp} {p : List Tp → Bool} {x : List Tp} {k : Nat} (hk : k < l.length) (h0 : firstUpTo l p 0 k = none) (h1 : (listsL l k).find? p = some x) : fewestL l p = x := by
  have h2 : firstUpTo l p 0 (k + 1) = some x := by rw [firstUpTo_snoc, h0]; simpa using h1
  have h3 := firstUpTo_le h2 (l.length - (k + 1))
  unfold fewestL
  rw [show k + 1 + (l.length - (k + 1)) = l.length by omega] at h3
  rw [h3]
  rfl
theorem firstUpTo_none {l : List Tp} {p : List Tp → Bool} {k : Nat} (h0 : firstUpTo l p 0 k = none) (h1 : (listsL l k).find? p = none) : firstUpTo l p 0 (k + 1) = none := by
  rw [firstUpTo_snoc, h0]
  simpa using h1
theorem find_take {α : Type} {p : α → Bool} {l : List α} {i : Nat} {x : α} (h0 : (l.take i).find? p = none) (hx : l[i]? = some x) (hp : p x = true) : l.find? p = some x := by
  obtain ⟨hi, rfl⟩ := List.getElem?_eq_some_iff.1 hx
  have e : l.take i ++ l[i] :: l.drop (i + 1) = l := by rw [← List.drop_eq_getElem_cons hi, List.take_append_drop]
  have e2 : (l.take i ++ l[i] :: l.drop (i + 1)).find? p = some l[i] := by
    rw [List.find?_append, h0, List.find?_cons, hp]
    rfl
  rw [e] at e2
  exact e2
theorem find_go {α : Type} {p : α → Bool} {l : List α} {i : Nat} {x : α} (h0 : (l.take i).find? p = none) (hx : l[i]? = some x) (hp : p x = false) : (l.take (i + 1)).find? p = none := by
  rw [List.take_add_one, hx, List.find?_append, h0]
  simp [hp]
theorem tests_len {t : Qt} (ok : t.Ok) : t.tests.length ≤ 16 := by
  obtain ⟨m, hm⟩ : ∃ m : Nat, t.wells = (m : Int) := ⟨t.wells.toNat, by have := ok.w0; omega⟩
  have m4 : m ≤ 4 := by have := ok.w1; omega
  unfold Qt.tests
  rw [testsL_len, hm, Int.toNat_natCast]
  have : m * m ≤ 4 * 4 := Nat.mul_le_mul m4 m4
  omega
theorem tests_ok5 {t : Qt} (ok : t.Ok) : t.TestsOk t.tests := fun x hx => by
  have := testsL_mem.1 hx
  have := ok.w0
  omega
set_option maxHeartbeats 4000000 in
set_option maxRecDepth 100000 in
theorem fewest5_any (Aw Af : Option Addr) (cw cf : Nat) (t : Qt) (w : World) (hs : t.Small) (hT : QAt w Aw Af t) :
    Calls Tryd.prog 23 #[.agg #[.int .i64 t.wells, .slice Aw t.nw cw, .slice Af t.nf cf]] w fun e w' => RefLst w' (t.knowErr true) (t.fewest t.leftL) e ∧ Below w.heap.size w w' := by
  have hb0 := bAlloc (Below.refl w.heap.size w) (.cells #[.int .i64 t.wells, .slice Aw t.nw cw, .slice Af t.nf cf] 25)
  have HT := Lib.hid (hT.mono hb0)
  have HB := Lib.hid hb0
  have HS := Lib.hid hs
  obtain ⟨er, her⟩ : ∃ er, t.knowErr true = er := ⟨_, rfl⟩
  have HE := Lib.hid her
  rw [her]
  clear hT hb0 hs her
  go_enter Tryd.func23, Tryd.ntmps23
  go_wp2_with fail
  refine (refKnown Aw Af cw cf t true _ HS.out.1 HS.out.2.1 HT.out).mono ?_
  rintro e w1 ⟨⟨v, rfl, h1, h2⟩, hb1⟩
  rw [HE.out] at h1 h2 ⊢
  have HB1 := Lib.hid hb1
  obtain ⟨bc1, bf1⟩ := bcell hb1
  have hz1 := hb1.size
  simp only [World.size_alloc] at hz1
  have hy1 : w.heap.size < w1.heap.size := by omega
  clear hb1
  by_cases h0 : er = 0
  case neg =>
    obtain rfl := h2 h0
    have g0 : (er != 0) = true := by simp [h0]
    have HZ := Lib.hid h0
    clear h1 h2 h0
    go_wp2_with fail
    go_ret2
    exact ⟨⟨fun h => absurd h HZ.out, fun _ => rfl⟩, bTrans HB.out HB1.out⟩
  subst h0
  have HOK := Lib.hid (knowErr_zero HE.out).1
  have HL1 := Lib.hid (h1 rfl)
  obtain ⟨A, c, rfl, hr⟩ := HL1.out.nums
  have HR := Lib.hid hr
  obtain ⟨n, hn⟩ : ∃ n, t.leftL.length = n := ⟨_, rfl⟩
  have HN := Lib.hid hn
  have HLE := Lib.hid (left_six HOK.out)
  obtain ⟨m, hm⟩ : ∃ m : Nat, t.wells = (m : Int) := ⟨t.wells.toNat, by have := HOK.out.w0; omega⟩
  have m4 : m ≤ 4 := by have := HOK.out.w1; omega
  have HTS := Lib.hid (fun w' => tests5_any Aw Af cw cf m t w' hm m4)
  obtain ⟨nt, hnt⟩ : ∃ nt, t.tests.length = nt := ⟨_, rfl⟩
  have HNT := Lib.hid hnt
  have nt16 : nt ≤ 16 := by rw [← hnt]; exact tests_len HOK.out
  rw [hn]
  clear h1 h2 hr hn hm hnt
  go_wp2_with fail
  refine (HTS.out _).mono ?_
  rintro e w2 ⟨⟨v, rfl, hv⟩, hb2⟩
  obtain ⟨At, ct, rfl, hrt⟩ := hv.read
  rw [HNT.out]
  have HRT := Lib.hid hrt
  have HRL := Lib.hid (HR.out.mono hb2)
  have HB2 := Lib.hid (bTrans HB1.out hb2)
  clear hv hrt hb2 bc1 bf1 hz1 hy1
  go_wp2_with fail
  go_loopw [7] (fun s wr => ∃ k : Nat, k ≤ nt ∧ s = .int .i64 (k : Int) ∧ firstUpTo t.tests (fun l => t.allApart l t.leftL) 0 k = none ∧ Below w2.heap.size w2 wr) (fun s _ => nt - (intOf s).toNat)
  case atStart => exact ⟨0, Nat.zero_le _, rfl, rfl, Below.refl _ _⟩
  case round =>
    obtain ⟨k, hk, rfl, hno, hbel⟩ := hrel
    have HNO := Lib.hid hno
    have HL := Lib.hid hbel
    clear hno hbel
    by_cases hlt : k < nt
    · have k1 : (k : Int) < (nt : Int) := by omega
      have HC := Lib.hid (by
        have := lists5_any t.tests At ct (by rw [HNT.out]; exact nt16) k 0 wr (by omega) (Nat.zero_le _) (HRT.out.mono HL.out)
        rw [HNT.out, List.drop_zero] at this
        exact this : Calls Tryd.prog 82 #[.slice At nt ct, .int .i64 0, .int .i64 (k : Int)] wr fun e w' => (∃ v, e = .returned v ∧ ListsAt w' wr.heap.size v (listsL t.tests k)) ∧ Below wr.heap.size wr w')
      go_wp2_with fail
      refine HC.out.mono ?_
      rintro e w3 ⟨⟨v, rfl, us, ho, hrows⟩, hb3⟩
      obtain ⟨LL, hLL⟩ : ∃ LL, listsL t.tests k = LL := ⟨_, rfl⟩
      rw [hLL] at ho hrows
      obtain ⟨q, hq⟩ : ∃ q, LL.length = q := ⟨_, rfl⟩
      rw [hq] at ho
      obtain ⟨A3, c3, rfl, hk3⟩ := RowK.own ho
      have HV3 := Lib.hid hk3.row
      have HR3 := Lib.hid hrows
      have HLL := Lib.hid hLL
      have HQ := Lib.hid hq
      have q65 : q ≤ 65536 := by rw [← hq, ← hLL]; exact listsL_small (by rw [HNT.out]; exact nt16) k
      have HL3 := Lib.hid (bTrans HL.out hb3)
      clear ho hrows hk3 hb3 hLL hq HC
      go_wp2_with fail
      go_loopw [9] (fun s wx => ∃ i : Nat, i ≤ q ∧ s = .int .i64 (i : Int) ∧ (LL.take i).find? (fun l => t.allApart l t.leftL) = none ∧ Below w3.heap.size w3 wx) (fun s _ => q - (intOf s).toNat)
      case atStart => exact ⟨0, Nat.zero_le _, rfl, rfl, Below.refl _ _⟩
      case round =>
        obtain ⟨i, hi, rfl, hni, hbel⟩ := hrel
        have HNI := Lib.hid hni
        have HX := Lib.hid hbel
        have HXD := Lib.hid (bTrans HL3.out hbel)
        have HXB := Lib.hid (bTrans HB2.out HXD.out)
        obtain ⟨bc4, bf4⟩ := bcell HXB.out
        have hz4 := HXB.out.size
        simp only [World.size_alloc] at hz4
        have hy4 : w.heap.size < wr.heap.size := by omega
        clear hni hbel
        by_cases hlq : i < q
        · obtain ⟨l, hl⟩ : ∃ l, LL[i]? = some l := ⟨_, List.getElem?_eq_getElem (by rw [HQ.out]; exact hlq)⟩
          obtain ⟨u, hu⟩ : ∃ u, us[i]? = some u := ⟨_, List.getElem?_eq_getElem (by rw [HR3.out.1, HQ.out]; exact hlq)⟩
          obtain ⟨Au, cu, rfl, hru⟩ := HR3.out.2 i u l hu hl
          rcases HV3.out.mono HX.out with h0 | ⟨b2, o2, rfl, hb2, hc2⟩
          · rw [h0] at hu; simp at hu
          have d0 := hc2 i _ hu
          have HRU := Lib.hid (hru.row.mono HX.out)
          have HLS := Lib.hid hl
          have hsub : List.Sublist l t.tests := (listsL_mem.1 (by rw [HLL.out]; exact List.mem_of_getElem? hl : l ∈ listsL t.tests k)).1
          obtain ⟨nl, hnl⟩ : ∃ nl, l.length = nl := ⟨_, rfl⟩
          have hl16 : nl ≤ 16 := by have := hsub.length_le; rw [HNT.out] at this; omega
          have HNL := Lib.hid hnl
          rw [hnl] at d0
          obtain ⟨ba, hba⟩ : ∃ b, t.allApart l t.leftL = b := ⟨_, rfl⟩
          have HBA := Lib.hid hba
          have HF := Lib.hid (fun (w' : World) (hb : Below wr.heap.size wr w') => (by
            have := allApart5_any Aw Af Au A cw cf cu c t l t.leftL w' HOK.out ((HT.out.mono HXB.out).mono hb) (fun x hx => tests_ok5 HOK.out x (hsub.subset hx)) (by omega) (HRU.out.mono hb) left_worlds (by have := HLE.out; omega) ((HRL.out.mono HXD.out).mono hb)
            rw [HNL.out, HN.out, hba] at this
            exact this : Calls Tryd.prog 29 #[.agg #[.int .i64 t.wells, .slice Aw t.nw cw, .slice Af t.nf cf], .slice Au nl cu, .slice A n c] w' fun e w'' => e = .returned (.bool ba) ∧ Below w'.heap.size w' w''))
          have k2 : (i : Int) < (q : Int) := by omega
          have k0 : (0 : Int) ≤ (i : Int) := by omega
          clear hu hl hc2 hru hnl hba hsub
          cases ba
          · have HNN := Lib.hid (find_go HNI.out HLS.out HBA.out)
            go_wp2_with fail
            refine wp_region_quiet_below (by kernel_rfl) (by kernel_rfl) ?_
            repeat (go_big_quiet_step (((go_at_call 29; with_reducible exact Calls.regrown_of (HF.out _ (below_regrown _ _ _))))))
            refine wpQuiet_nil ?_
            intro w9 hw9
            have HX9 := Lib.hid (bTrans HX.out (below_of_regrown hw9))
            clear hw9 bc4 bf4 d0
            go_wp2_with fail
            go_roundw
            case rel =>
              first
              | exact ⟨i + 1, by omega, by go_num, HNN.out, HX9.out⟩
              | ((repeat apply Exists.intro)
                 refine ⟨⟨i + 1, by omega, ?_, HNN.out, HX9.out⟩, rfl⟩
                 go_num)
            case measure => simp [intOf]; omega
          · have HY := Lib.hid (show t.fewest t.leftL = l from fewestL_at (by rw [HNT.out]; exact hlt) HNO.out (by rw [HLL.out]; exact find_take HNI.out HLS.out HBA.out))
            go_wp2_with fail
            refine wp_region_quiet_below (by kernel_rfl) (by kernel_rfl) ?_
            repeat (go_big_quiet_step (((go_at_call 29; with_reducible exact Calls.regrown_of (HF.out _ (below_regrown _ _ _))))))
            refine wpQuiet_nil ?_
            intro w9 hw9
            have hb9 := below_of_regrown hw9
            have d9 := (hb9.cell (p := ⟨b2, o2 + i, none⟩) hb2).trans d0
            have HRU9 := Lib.hid (HRU.out.mono hb9)
            have HXB9 := Lib.hid (bTrans HXB.out hb9)
            have hb29 := Nat.lt_of_lt_of_le hb2 hb9.size
            clear hw9 hb9 bc4 bf4 d0 hb2
            go_wp2_with fail
            go_ret2
            exact ⟨⟨fun _ => ⟨Au, cu, by rw [HY.out, HNL.out]; rfl, by rw [HY.out]; exact HRU9.out⟩, fun h => absurd rfl h⟩, bTrans HB.out HXB9.out⟩
        · obtain rfl : i = q := by omega
          have HNN := Lib.hid (firstUpTo_none HNO.out (by
            have := HNI.out
            rw [List.take_of_length_le (by rw [HQ.out]; exact Nat.le_refl _)] at this
            rw [HLL.out]
            exact this))
          go_wp2_with fail
          go_roundw
          case rel =>
            first
            | exact ⟨k + 1, by omega, by go_num, HNN.out, HXD.out⟩
            | ((repeat apply Exists.intro)
               refine ⟨⟨k + 1, by omega, ?_, HNN.out, HXD.out⟩, rfl⟩
               go_num)
          case measure => simp [intOf]; omega
    · obtain rfl : k = nt := by omega
      have HY := Lib.hid (show t.fewest t.leftL = t.tests by unfold Qt.fewest fewestL; rw [HNT.out, HNO.out]; rfl)
      go_wp2_with fail
      go_ret2
      exact ⟨⟨fun _ => ⟨At, ct, by rw [HY.out, HNT.out]; rfl, by rw [HY.out]; exact HRT.out.mono HL.out⟩, fun h => absurd rfl h⟩, bTrans HB.out (bTrans HB2.out HL.out)⟩
end Go.Proofs.YtchhodikgllgnaaDoor
/- What comes back with a list of tests, in one form. No condition. -/
namespace Go.Proofs.YtchhodikgllgnaaDoor
open Go.RowKit Go.Sort
/-- the list that comes back with an error -/
def lstO (er : Int) (L : List Tp) : List Tp := if er = 0 then L else []
theorem LstOut.o {w : World} {er : Int} {L : List Tp} {e : Ending} (h : LstOut w er L e) : ∃ A c, e = .returned (.tuple #[.slice A (lstO er L).length c, .int .i64 er]) ∧ RowAt w A (tstE.cells (lstO er L)) := by
  unfold lstO
  by_cases h0 : er = 0
  · obtain ⟨A, c, e1, h1⟩ := h.1 h0
    rw [if_pos h0]
    exact ⟨A, c, e1, h1.row⟩
  · rw [if_neg h0]
    exact ⟨none, 0, h.2 h0, .inl rfl⟩
theorem RefLst.o {w : World} {er : Int} {L : List Tp} {e : Ending} (h : RefLst w er L e) : ∃ A c, e = .returned (.tuple #[.slice A (lstO er L).length c, .int .i64 er]) ∧ RowAt w A (tstE.cells (lstO er L)) := by
  unfold lstO
  by_cases h0 : er = 0
  · obtain ⟨A, c, e1, h1⟩ := h.1 h0
    rw [if_pos h0]
    exact ⟨A, c, e1, h1⟩
  · rw [if_neg h0]
    exact ⟨none, 0, h.2 h0, .inl rfl⟩
theorem fewest_len (t : Qt) : (lstO (t.knowErr true) (t.fewest t.leftL)).length ≤ 100000 := by
  unfold lstO
  by_cases h0 : t.knowErr true = 0
  · rw [if_pos h0]
    have h1 := (fewest_sub t t.leftL).length_le
    have h2 := tests_len (knowErr_zero h0).1
    omega
  · rw [if_neg h0]
    simp
end Go.Proofs.YtchhodikgllgnaaDoor
/- The statement QuarrelsFewest: the walk. Conditions: what is read fits into memory; the listed table holds what it holds. -/
namespace Go.Proofs.YtchhodikgllgnaaDoor
open Go.RowKit Go.Sort
set_option maxHeartbeats 8000000 in
set_option maxRecDepth 100000 in
theorem quarrelsFewest_any (Aw Af : Option Addr) (cw cf : Nat) (t : Qt) (p q : Int) (w : World) (hf : t.Fits) (hT : QAt w Aw Af t) (hB : TabAt w) :
    Calls Tryd.prog 3 #[.agg #[.int .i64 t.wells, .slice Aw t.nw cw, .slice Af t.nf cf], .agg #[.int .i64 p, .int .i64 q]] w fun e w' => e = .returned (.bool true) ∧ Below w.heap.size w w' := by
  have HT0 := Lib.hid hT
  have HTB0 := Lib.hid hB
  have HD0 := Lib.hid (Below.refl w.heap.size w)
  have HS := Lib.hid hf.small
  have HF := Lib.hid hf
  clear hT hB hf
  go_enter Tryd.func3, Tryd.ntmps3
  go_wp2_with fail
  refine (far_any _ _ _ _ t _ HS.out (HT0.out.mono (bAlloc (bAlloc (Below.refl _ _) (.cells #[.int .i64 t.wells, .slice Aw t.nw cw, .slice Af t.nf cf] 25)) (.cells #[.int .i64 p, .int .i64 q] 27)))).mono ?_
  rintro e w1 ⟨rfl, hb⟩
  have hB1 : Below w.heap.size w w1 := bTrans (bAlloc (bAlloc (Below.refl _ _) (.cells #[.int .i64 t.wells, .slice Aw t.nw cw, .slice Af t.nf cf] 25)) (.cells #[.int .i64 p, .int .i64 q] 27)) hb
  have HD1 := Lib.hid (bTrans HD0.out hB1)
  have HT1 := Lib.hid (HT0.out.mono hB1)
  have HTB1 := Lib.hid (HTB0.out.mono hB1)
  have T1 := Lib.hid (show TBox w1 w.heap.size 25 #[.int .i64 t.wells, .slice Aw t.nw cw, .slice Af t.nf cf] from by have := ((TBox.new w #[.int .i64 t.wells, .slice Aw t.nw cw, .slice Af t.nf cf] 25).mono (bAlloc (Below.refl _ _) (.cells #[.int .i64 p, .int .i64 q] 27))).mono hb; simpa using this)
  have X1 := Lib.hid (show TBox w1 (w.heap.size + 1) 27 #[.int .i64 p, .int .i64 q] from by have := ((TBox.new (w.alloc (.cells #[.int .i64 t.wells, .slice Aw t.nw cw, .slice Af t.nf cf] 25)) #[.int .i64 p, .int .i64 q] 27).mono (Below.refl _ _)).mono hb; simpa using this)
  clear hb hB1 HD0 HT0 HTB0
  obtain ⟨T_0, T_1, T_2, T_l⟩ := T1.out.c3
  obtain ⟨X_0, X_1, X_l⟩ := X1.out.c2
  cases t.farB
  case true =>
    go_wp2_with fail
    refine (works5_any _ HTB1.out).mono ?_
    rintro e w99 ⟨rfl, hb99⟩
    go_wp2_with fail
    go_ret
    exact ⟨rfl, bTrans HD1.out hb99⟩
  go_wp2_with fail
  refine (copy5_any _ _ _ _ t _ HF.out HT1.out).mono ?_
  rintro e w2 ⟨⟨vW, vF, rfl, hc⟩, hb⟩
  obtain ⟨Bw, dw, Bf, df, rfl, rfl, hq⟩ := hc.qat
  have hB2 : Below w1.heap.size w1 w2 := bTrans (Below.refl _ _) hb
  have HD2 := Lib.hid (bTrans HD1.out hB2)
  have HT2 := Lib.hid (HT1.out.mono hB2)
  have HTB2 := Lib.hid (HTB1.out.mono hB2)
  have HQ2 := Lib.hid (hq)
  have T2 := Lib.hid (T1.out.mono hB2)
  have X2 := Lib.hid (X1.out.mono hB2)
  clear hb hB2 HD1 HT1 HTB1 T1 T_0 T_1 T_2 T_l X1 X_0 X_1 X_l
  obtain ⟨T_0, T_1, T_2, T_l⟩ := T2.out.c3
  obtain ⟨X_0, X_1, X_l⟩ := X2.out.c2
  clear hc hq
  go_wp2_with fail
  refine (splitQ_any Bw Bf dw df t p q _ HS.out (HQ2.out.mono (bAlloc (Below.refl _ _) (.cells #[.int .i64 t.wells, .slice Bw t.nw dw, .slice Bf t.nf df] 25))) (HTB2.out.mono (bAlloc (Below.refl _ _) (.cells #[.int .i64 t.wells, .slice Bw t.nw dw, .slice Bf t.nf df] 25)))).mono ?_
  rintro e w3 ⟨rfl, hb⟩
  have hB3 : Below w2.heap.size w2 w3 := bTrans (bAlloc (Below.refl _ _) (.cells #[.int .i64 t.wells, .slice Bw t.nw dw, .slice Bf t.nf df] 25)) hb
  have HD3 := Lib.hid (bTrans HD2.out hB3)
  have HT3 := Lib.hid (HT2.out.mono hB3)
  have HTB3 := Lib.hid (HTB2.out.mono hB3)
  have HQ3 := Lib.hid (HQ2.out.mono hB3)
  have T3 := Lib.hid (T2.out.mono hB3)
  have X3 := Lib.hid (X2.out.mono hB3)
  have O3 := Lib.hid (show TBox w3 w2.heap.size 25 #[.int .i64 t.wells, .slice Bw t.nw dw, .slice Bf t.nf df] from by have := ((TBox.new w2 #[.int .i64 t.wells, .slice Bw t.nw dw, .slice Bf t.nf df] 25).mono (Below.refl _ _)).mono hb; simpa using this)
  clear hb hB3 HD2 HT2 HTB2 HQ2 T2 T_0 T_1 T_2 T_l X2 X_0 X_1 X_l
  obtain ⟨T_0, T_1, T_2, T_l⟩ := T3.out.c3
  obtain ⟨X_0, X_1, X_l⟩ := X3.out.c2
  obtain ⟨O_0, O_1, O_2, O_l⟩ := O3.out.c3
  obtain ⟨sv, hsv⟩ : ∃ v, t.splitV p q = v := ⟨_, rfl⟩
  obtain ⟨er, her⟩ : ∃ v, t.knowErr (t.wellB p && t.wellB q) = v := ⟨_, rfl⟩
  rw [hsv, her]
  have HV := Lib.hid (And.intro hsv her)
  clear hsv her
  go_wp2_with fail
  refine (split5_any Aw Af cw cf t p q _ HS.out HT3.out).mono ?_
  rintro e w4 ⟨rfl, hb⟩
  rw [HV.out.1, HV.out.2]
  have hB4 : Below w3.heap.size w3 w4 := bTrans (Below.refl _ _) hb
  have HD4 := Lib.hid (bTrans HD3.out hB4)
  have HT4 := Lib.hid (HT3.out.mono hB4)
  have HTB4 := Lib.hid (HTB3.out.mono hB4)
  have HQ4 := Lib.hid (HQ3.out.mono hB4)
  have T4 := Lib.hid (T3.out.mono hB4)
  have X4 := Lib.hid (X3.out.mono hB4)
  have O4 := Lib.hid (O3.out.mono hB4)
  clear hb hB4 HD3 HT3 HTB3 HQ3 T3 T_0 T_1 T_2 T_l X3 X_0 X_1 X_l O3 O_0 O_1 O_2 O_l
  obtain ⟨T_0, T_1, T_2, T_l⟩ := T4.out.c3
  obtain ⟨X_0, X_1, X_l⟩ := X4.out.c2
  obtain ⟨O_0, O_1, O_2, O_l⟩ := O4.out.c3
  go_wp2_with fail
  obtain ⟨nl, hnl⟩ : ∃ n, (lstO (t.knowErr true) (t.fewest t.leftL)).length = n := ⟨_, rfl⟩
  have HNL := Lib.hid hnl
  have HNS := Lib.hid (show (lstO (t.knowErr true) (t.fewest t.leftL)).length ≤ 100000 from fewest_len t)
  clear hnl
  refine (fewestQ_any Bw Bf dw df t _ HS.out HQ4.out HTB4.out).mono ?_
  rintro e w5 ⟨ho, hb⟩
  obtain ⟨L1A, L1c, rfl, hrow⟩ := ho.o
  rw [HNL.out]
  have hB5 : Below w4.heap.size w4 w5 := bTrans (Below.refl _ _) hb
  have HD5 := Lib.hid (bTrans HD4.out hB5)
  have HT5 := Lib.hid (HT4.out.mono hB5)
  have HTB5 := Lib.hid (HTB4.out.mono hB5)
  have HQ5 := Lib.hid (HQ4.out.mono hB5)
  have HL15 := Lib.hid (hrow)
  have T5 := Lib.hid (T4.out.mono hB5)
  have X5 := Lib.hid (X4.out.mono hB5)
  have O5 := Lib.hid (O4.out.mono hB5)
  clear hb hB5 HD4 HT4 HTB4 HQ4 T4 T_0 T_1 T_2 T_l X4 X_0 X_1 X_l O4 O_0 O_1 O_2 O_l
  obtain ⟨T_0, T_1, T_2, T_l⟩ := T5.out.c3
  obtain ⟨X_0, X_1, X_l⟩ := X5.out.c2
  obtain ⟨O_0, O_1, O_2, O_l⟩ := O5.out.c3
  clear ho hrow
  obtain ⟨er2, her2⟩ : ∃ v, t.knowErr true = v := ⟨_, rfl⟩
  rw [her2]
  have HV2 := Lib.hid her2
  clear her2
  go_wp2_with fail
  refine (fewest5_any Aw Af cw cf t _ HS.out HT5.out).mono ?_
  rintro e w6 ⟨ho, hb⟩
  obtain ⟨L2A, L2c, rfl, hrow⟩ := ho.o
  rw [HNL.out]
  have hB6 : Below w5.heap.size w5 w6 := bTrans (Below.refl _ _) hb
  have HD6 := Lib.hid (bTrans HD5.out hB6)
  have HT6 := Lib.hid (HT5.out.mono hB6)
  have HTB6 := Lib.hid (HTB5.out.mono hB6)
  have HQ6 := Lib.hid (HQ5.out.mono hB6)
  have HL16 := Lib.hid (HL15.out.mono hB6)
  have HL26 := Lib.hid (hrow)
  have T6 := Lib.hid (T5.out.mono hB6)
  have X6 := Lib.hid (X5.out.mono hB6)
  have O6 := Lib.hid (O5.out.mono hB6)
  clear hb hB6 HD5 HT5 HTB5 HQ5 HL15 T5 T_0 T_1 T_2 T_l X5 X_0 X_1 X_l O5 O_0 O_1 O_2 O_l
  obtain ⟨T_0, T_1, T_2, T_l⟩ := T6.out.c3
  obtain ⟨X_0, X_1, X_l⟩ := X6.out.c2
  obtain ⟨O_0, O_1, O_2, O_l⟩ := O6.out.c3
  clear ho hrow
  rw [HV2.out]
  go_wp2_with fail
  refine ((by have := sameTests_any L1A L2A L1c L2c _ _ _ HNS.out HNS.out HL16.out HL26.out; rw [HNL.out, decide_eq_true rfl] at this; exact this : Calls Tryd.prog 24 #[.slice L1A nl L1c, .slice L2A nl L2c] w6 fun e w' => e = .returned (.bool true) ∧ Below w6.heap.size w6 w')).mono ?_
  rintro e w7 ⟨rfl, hb⟩
  have hB7 : Below w6.heap.size w6 w7 := bTrans (Below.refl _ _) hb
  have HD7 := Lib.hid (bTrans HD6.out hB7)
  have HT7 := Lib.hid (HT6.out.mono hB7)
  have HTB7 := Lib.hid (HTB6.out.mono hB7)
  have HQ7 := Lib.hid (HQ6.out.mono hB7)
  have HL17 := Lib.hid (HL16.out.mono hB7)
  have HL27 := Lib.hid (HL26.out.mono hB7)
  have T7 := Lib.hid (T6.out.mono hB7)
  have X7 := Lib.hid (X6.out.mono hB7)
  have O7 := Lib.hid (O6.out.mono hB7)
  clear hb hB7 HD6 HT6 HTB6 HQ6 HL16 HL26 T6 T_0 T_1 T_2 T_l X6 X_0 X_1 X_l O6 O_0 O_1 O_2 O_l
  obtain ⟨T_0, T_1, T_2, T_l⟩ := T7.out.c3
  obtain ⟨X_0, X_1, X_l⟩ := X7.out.c2
  obtain ⟨O_0, O_1, O_2, O_l⟩ := O7.out.c3
  go_wp2_with fail
  refine (same5_any Bw Bf Aw Af dw df cw cf t _ HS.out HQ7.out HT7.out).mono ?_
  rintro e w8 ⟨rfl, hb⟩
  have hB8 : Below w7.heap.size w7 w8 := bTrans (Below.refl _ _) hb
  have HD8 := Lib.hid (bTrans HD7.out hB8)
  have HT8 := Lib.hid (HT7.out.mono hB8)
  have HTB8 := Lib.hid (HTB7.out.mono hB8)
  have HQ8 := Lib.hid (HQ7.out.mono hB8)
  have HL18 := Lib.hid (HL17.out.mono hB8)
  have HL28 := Lib.hid (HL27.out.mono hB8)
  have T8 := Lib.hid (T7.out.mono hB8)
  have X8 := Lib.hid (X7.out.mono hB8)
  have O8 := Lib.hid (O7.out.mono hB8)
  clear hb hB8 HD7 HT7 HTB7 HQ7 HL17 HL27 T7 T_0 T_1 T_2 T_l X7 X_0 X_1 X_l O7 O_0 O_1 O_2 O_l
  obtain ⟨T_0, T_1, T_2, T_l⟩ := T8.out.c3
  obtain ⟨X_0, X_1, X_l⟩ := X8.out.c2
  obtain ⟨O_0, O_1, O_2, O_l⟩ := O8.out.c3
  go_wp2_with fail
  refine (works5_any _ HTB8.out).mono ?_
  rintro e w99 ⟨rfl, hb99⟩
  go_wp2_with fail
  go_ret
  exact ⟨rfl, bTrans HD8.out hb99⟩
end Go.Proofs.YtchhodikgllgnaaDoor
