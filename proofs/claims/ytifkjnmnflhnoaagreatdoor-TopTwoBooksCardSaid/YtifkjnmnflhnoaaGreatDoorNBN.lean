/- Parts joined: what all claims of this seat need. -/
import Derived.DeepKeys3
import Derived.WideKeyMaps
import Derived.Test.YtifkjnmnflhnoaaGreatDoorNBM
import Derived.Test.YtifkjnmnflhnoaaGreatDoorNBB
import Derived.Test.YtifkjnmnflhnoaaGreatDoorNBI
import Derived.Test.YtifkjnmnflhnoaaGreatDoorNBG
set_option linter.unusedSimpArgs false
set_option linter.unusedVariables false
namespace Go.Proofs.YtifkjnmnflhnoaaGreatDoor
open Go.RowKit Go.Sort
theorem pair_law : WideMaps.KeyLaw Tryz.prog 89 := deep_law (m := 2) (by decide) (by kernel_rfl) (by kernel_rfl) (by kernel_rfl)
abbrev pkV (i : Nat) : Value := .agg #[.int .i64 (i : Int), .int .i64 (i : Int)]
theorem pair_key (i : Nat) (h : i < 5) : ∃ l, keyOf Tryz.prog 89 (pkV i) = some l := by
  match i, h with
  | 0, _ => exact Option.isSome_iff_exists.1 (show (keyOf Tryz.prog 89 (pkV 0)).isSome = true by kernel_rfl)
  | 1, _ => exact Option.isSome_iff_exists.1 (show (keyOf Tryz.prog 89 (pkV 1)).isSome = true by kernel_rfl)
  | 2, _ => exact Option.isSome_iff_exists.1 (show (keyOf Tryz.prog 89 (pkV 2)).isSome = true by kernel_rfl)
  | 3, _ => exact Option.isSome_iff_exists.1 (show (keyOf Tryz.prog 89 (pkV 3)).isSome = true by kernel_rfl)
  | 4, _ => exact Option.isSome_iff_exists.1 (show (keyOf Tryz.prog 89 (pkV 4)).isSome = true by kernel_rfl)
abbrev mEnt (k : Nat) (v : Int) : MapEntry := { key := pkV k, val := .int .i64 v, born := k }
theorem modify_end {α : Type} (f : α → α) (a : α) : ∀ l : List α, (l ++ [a]).modify l.length f = l ++ [f a]
  | [] => rfl
  | b :: r => by simp [List.modify_succ_cons, modify_end f a r]
def esD (k : Nat) : List MapEntry := (List.range k).map fun i => mEnt i 1
theorem esD_succ (k : Nat) : esD (k + 1) = esD k ++ [mEnt k 1] := by unfold esD; rw [List.range_succ, List.map_append]; rfl
theorem esD_len (k : Nat) : (esD k).length = k := by unfold esD; simp
theorem pk_inj {i j : Nat} (h : pkV i = pkV j) : i = j := by
  unfold pkV at h
  simp at h
  omega
def MapAt (w : World) (mp k : Nat) : Prop := w.heap[mp]? = some (.map (esD k).toArray k)
/-- an entry of the map has been made, its number has not been stored yet -/
def MidAt (w : World) (mp k : Nat) : Prop := w.heap[mp]? = some (.map (esD k ++ [mEnt k 0]).toArray (k + 1))
theorem esD_mem {k : Nat} {e : MapEntry} (h : e ∈ esD k) : ∃ i, i < k ∧ e = mEnt i 1 := by
  unfold esD at h
  obtain ⟨i, hi, rfl⟩ := List.mem_map.1 h
  exact ⟨i, List.mem_range.1 hi, rfl⟩
theorem find_new {k : Nat} (hk : k < 5) (w : World) : (Instr.findKey 89 (pkV k) (esD k)).run Tryz.prog w = .ok none w := by
  obtain ⟨l, hl⟩ := pair_key k hk
  rcases pair_law.find w hl (esD k) (fun e he => by
    obtain ⟨i, hi, rfl⟩ := esD_mem he
    exact pair_key i (by omega)) with ⟨h, _⟩ | ⟨j, e, _, h2, h3⟩
  · exact h
  · obtain ⟨i, hi, rfl⟩ := esD_mem (List.mem_of_getElem? h2)
    have := pk_inj h3
    omega
theorem find_mid {k : Nat} (hk : k < 5) (w : World) : ∃ j, (Instr.findKey 89 (pkV k) (esD k ++ [mEnt k 0])).run Tryz.prog w = .ok (some (j, .int .i64 0)) w := by
  obtain ⟨l, hl⟩ := pair_key k hk
  rcases pair_law.find w hl (esD k ++ [mEnt k 0]) (fun e he => by
    rcases List.mem_append.1 he with he | he
    · obtain ⟨i, hi, rfl⟩ := esD_mem he
      exact pair_key i (by omega)
    · rw [List.mem_singleton.1 he]
      exact ⟨l, hl⟩) with ⟨_, h⟩ | ⟨j, e, h1, h2, h3⟩
  · exact absurd rfl (h (mEnt k 0) (by simp))
  · rcases List.mem_append.1 (List.mem_of_getElem? h2) with he | he
    · obtain ⟨i, hi, rfl⟩ := esD_mem he
      have := pk_inj h3
      omega
    · rw [List.mem_singleton.1 he] at h1
      exact ⟨j, h1⟩
theorem find_old {k i : Nat} (hk : k < 5) (hi : i < k) (w : World) : ∃ j, (Instr.findKey 89 (pkV i) (esD k)).run Tryz.prog w = .ok (some (j, .int .i64 1)) w := by
  obtain ⟨l, hl⟩ := pair_key i (by omega)
  rcases pair_law.find w hl (esD k) (fun e he => by
    obtain ⟨i, hi, rfl⟩ := esD_mem he
    exact pair_key i (by omega)) with ⟨_, h⟩ | ⟨j, e, h1, h2, h3⟩
  · exact absurd rfl (h (mEnt i 1) (by unfold esD; exact List.mem_map.2 ⟨i, List.mem_range.2 hi, rfl⟩))
  · obtain ⟨i', hi', rfl⟩ := esD_mem (List.mem_of_getElem? h2)
    exact ⟨j, h1⟩
theorem getMp {w : World} {r : Nat} {es : Array MapEntry} {clock : Nat} (h : w.heap[r]? = some (.map es clock)) : (getObj r).run Tryz.prog w = .ok (.map es clock) w := by simp [getObj, Sem.run, h]
theorem setMp {w : World} {r : Nat} {es : Array MapEntry} {clock : Nat} (o : Obj) (h : w.heap[r]? = some (.map es clock)) : (setObj r o).run Tryz.prog w = .ok () { w with heap := w.heap.setIfInBounds r o } := by simp [setObj, Sem.run, h]
theorem lookup_new {w : World} {mp k : Nat} (hk : k < 5) (h : MapAt w mp k) : (Instr.lookup 84 (.map (some mp)) (pkV k) false).run Tryz.prog w = .ok (.int .i64 0) w := by
  have h0 : w.heap[mp]? = some (.map (esD k).toArray k) := h
  obtain ⟨l, hl⟩ := pair_key k hk
  unfold Instr.lookup
  simp [run_underlying Tryz.underlying84, getMp h0, pair_law.check w _ hl, find_new hk, Tryz.zeroValue3, Result.andThen]
theorem lookup_mid {w : World} {mp k : Nat} (hk : k < 5) (h : MidAt w mp k) : (Instr.lookup 84 (.map (some mp)) (pkV k) false).run Tryz.prog w = .ok (.int .i64 0) w := by
  have h0 : w.heap[mp]? = some (.map (esD k ++ [mEnt k 0]).toArray (k + 1)) := h
  obtain ⟨l, hl⟩ := pair_key k hk
  obtain ⟨j, hj⟩ := find_mid hk w
  unfold Instr.lookup
  simp [run_underlying Tryz.underlying84, getMp h0, pair_law.check w _ hl, hj, Result.andThen]
theorem lookup_old {w : World} {mp k i : Nat} (hk : k < 5) (hi : i < k) (h : MapAt w mp k) : (Instr.lookup 84 (.map (some mp)) (pkV i) false).run Tryz.prog w = .ok (.int .i64 1) w := by
  have h0 : w.heap[mp]? = some (.map (esD k).toArray k) := h
  obtain ⟨l, hl⟩ := pair_key i (by omega)
  obtain ⟨j, hj⟩ := find_old hk hi w
  unfold Instr.lookup
  simp [run_underlying Tryz.underlying84, getMp h0, pair_law.check w _ hl, hj, Result.andThen]
theorem heap_put {w : World} {mp : Nat} (hl : mp < w.heap.size) (o : Obj) : ({ w with heap := w.heap.setIfInBounds mp o } : World).heap[mp]? = some o := by
  show (w.heap.setIfInBounds mp o)[mp]? = _
  rw [Array.getElem?_setIfInBounds_self_of_lt hl]
theorem grown_mp (w : World) (mp : Nat) (o : Obj) : w.grownBy { w with heap := w.heap.setIfInBounds mp o } (some mp) := ⟨rfl, rfl, rfl, by simp, fun k hk hne => by
  show (w.heap.setIfInBounds mp o)[k]? = _
  rw [Array.getElem?_setIfInBounds_ne (fun e => hne (by rw [e]))]⟩
theorem entry_new {w : World} {mp k : Nat} (hk : k < 5) (h : MapAt w mp k) : ∃ w1, (Instr.mapEntry 84 (.map (some mp)) (pkV k)).run Tryz.prog w = .ok (.tuple #[.int .i64 0, .int .i64 (k : Int)]) w1 ∧ MidAt w1 mp k ∧ w.grownBy w1 (some mp) := by
  have h0 : w.heap[mp]? = some (.map (esD k).toArray k) := h
  obtain ⟨l, hl⟩ := pair_key k hk
  have hlt := (Array.getElem?_eq_some_iff.1 h0).1
  refine ⟨{ w with heap := w.heap.setIfInBounds mp (.map (esD k ++ [mEnt k 0]).toArray (k + 1)) }, ?_, heap_put hlt _, grown_mp _ _ _⟩
  unfold Instr.mapEntry
  simp [run_underlying Tryz.underlying84, getMp h0, setMp _ h0, pair_law.check w _ hl, find_new hk, Tryz.zeroValue3, Result.andThen, goInt]
theorem store_new {w : World} {mp k : Nat} (h : MidAt w mp k) : ∃ w2, (Instr.entryStore 84 (.map (some mp)) (.int .i64 (k : Int)) (.int .i64 1)).run Tryz.prog w = .ok () w2 ∧ MapAt w2 mp (k + 1) ∧ w.grownBy w2 (some mp) := by
  have h0 : w.heap[mp]? = some (.map (esD k ++ [mEnt k 0]).toArray (k + 1)) := h
  have hlt := (Array.getElem?_eq_some_iff.1 h0).1
  refine ⟨{ w with heap := w.heap.setIfInBounds mp (.map (esD (k + 1)).toArray (k + 1)) }, ?_, heap_put hlt _, grown_mp _ _ _⟩
  have hf : ((esD k ++ [mEnt k 0] : List MapEntry).toArray).findIdx? (fun e => (e.born : Int) == (k : Int)) = some k := by
    rw [List.findIdx?_toArray, List.findIdx?_append]
    have h0 : (esD k).findIdx? (fun e => (e.born : Int) == (k : Int)) = none := by
      rw [List.findIdx?_eq_none_iff]
      intro e he
      obtain ⟨i, hi, rfl⟩ := esD_mem he
      simp
      omega
    rw [h0, esD_len]
    simp [List.findIdx?_cons]
  have hm : ((esD k ++ [mEnt k 0] : List MapEntry).toArray).modify k (fun e => { e with val := .int .i64 1 }) = (esD (k + 1)).toArray := by
    rw [esD_succ]
    apply Array.ext'
    simp only [Array.toList_modify]
    have := modify_end (fun e : MapEntry => { e with val := .int .i64 1 }) (mEnt k 0) (esD k)
    rw [esD_len] at this
    exact this
  unfold Instr.entryStore
  simp [-List.findIdx?_append, -List.findIdx?_toArray, -List.modify_toArray, getMp h0, setMp _ h0, asInt, asIntOf, hf, hm, Result.andThen]
end Go.Proofs.YtifkjnmnflhnoaaGreatDoor

namespace Go.Proofs.YtifkjnmnflhnoaaGreatDoor
open Go.RowKit Go.Sort
theorem MapAt.lt {w : World} {mp k : Nat} (h : MapAt w mp k) : mp < w.heap.size := (Array.getElem?_eq_some_iff.1 h).1
theorem MapAt.mono {w w' : World} {mp k : Nat} (h : MapAt w mp k) (hb : Below w.heap.size w w') : MapAt w' mp k := (hb.block mp h.lt).trans h
theorem MapAt.keeps {w w' : World} {mp k : Nat} {l : List TypeId} (h : MapAt w mp k) (hg : w.grownBy w' (some mp)) : Kept l w w' := kept_cells hg (fun r e => by
  injection e with e
  subst e
  exact ⟨_, h, rfl⟩)
def fqE : Elem (Nat × Nat) := { enc := fun x => [.int .i64 (x.1 : Int), .int .i64 (x.2 : Int)], size := 2, ty := 89, sl := 52, z := .agg #[.int .i64 0, .int .i64 0], bytes := 16 }
theorem fqG : fqE.Good :=
  ⟨by kernel_rfl, by kernel_rfl, by decide, by decide, fun _ => rfl, fun x u hu => by
    rcases (by simpa [fqE] using hu : u = .int .i64 (x.1 : Int) ∨ u = .int .i64 (x.2 : Int)) with rfl | rfl <;> rfl, by decide⟩
theorem diag_succ (n : Nat) : diag (n + 1) = diag n ++ [(n, n)] := by unfold diag; rw [List.range_succ, List.map_append]; rfl
set_option maxHeartbeats 4000000 in
set_option maxRecDepth 100000 in
theorem mustF_any (b : Bk) (n : Nat) (D : Int) (U : Nat → Int × Int) (w : World) (h : Dg b n D U) (hT : BkAt w b) :
    Calls Tryz.prog 14 #[.agg #[.int .i64 b.base, .int .i64 (b.pl : Int), .int .i64 b.pers, .int .i64 b.late, .slice b.a1 b.n1 b.c1, .slice b.a2 b.n2 b.c2]] w fun e w' => (∃ A c, e = .returned (.tuple #[.slice A n c, .int .i64 0])) ∧ Below w.heap.size w w' := by
  have HD0 := Lib.hid (Below.refl w.heap.size w)
  have HDG := Lib.hid h
  have HT0 := Lib.hid hT
  clear h hT
  go_enter Tryz.func14, Tryz.ntmps14
  have hmm := @run_makeMap Tryz.prog
  go_wp2_with fail
  refine (checkF_any b _ HDG.out.ok (HT0.out.mono (bAlloc (Below.refl _ _) (.cells #[.int .i64 b.base, .int .i64 (b.pl : Int), .int .i64 b.pers, .int .i64 b.late, .slice b.a1 b.n1 b.c1, .slice b.a2 b.n2 b.c2] 41)))).mono ?_
  rintro e w1 ⟨rfl, hb⟩
  have hB1 : Below w.heap.size w w1 := bTrans (bAlloc (Below.refl _ _) (.cells #[.int .i64 b.base, .int .i64 (b.pl : Int), .int .i64 b.pers, .int .i64 b.late, .slice b.a1 b.n1 b.c1, .slice b.a2 b.n2 b.c2] 41)) hb
  have HD1 := Lib.hid (bTrans HD0.out hB1)
  have HT1 := Lib.hid (HT0.out.mono hB1)
  have B1 := Lib.hid (show TBox w1 w.heap.size 41 #[.int .i64 b.base, .int .i64 (b.pl : Int), .int .i64 b.pers, .int .i64 b.late, .slice b.a1 b.n1 b.c1, .slice b.a2 b.n2 b.c2] from by have := ((TBox.new w #[.int .i64 b.base, .int .i64 (b.pl : Int), .int .i64 b.pers, .int .i64 b.late, .slice b.a1 b.n1 b.c1, .slice b.a2 b.n2 b.c2] 41).mono (Below.refl _ _)).mono hb; simpa using this)
  clear hb hB1 HD0 HT0
  obtain ⟨B_0, B_1, B_2, B_3, B_4, B_5, B_l⟩ := B1.out.c6
  go_wp2_with fail
  clear hmm
  have HB9 := Lib.hid B1.out.lt
  obtain ⟨w2, hw2⟩ : ∃ y, y = w1.alloc (.map #[] 0) := ⟨_, rfl⟩
  have hMp : MapAt w2 w1.heap.size 0 := by rw [hw2]; exact heap_alloc_new _ _
  have hb : Below w1.heap.size w1 w2 := by rw [hw2]; exact bAlloc (Below.refl _ _) _
  rw [← hw2]
  clear hw2
  have hB2 : Below w1.heap.size w1 w2 := bTrans (Below.refl _ _) hb
  have HD2 := Lib.hid (bTrans HD1.out hB2)
  have HT2 := Lib.hid (HT1.out.mono hB2)
  have HM2 := Lib.hid (hMp)
  have B2 := Lib.hid (B1.out.mono hB2)
  clear hb hB2 HD1 HT1 B1 B_0 B_1 B_2 B_3 B_4 B_5 B_l
  obtain ⟨B_0, B_1, B_2, B_3, B_4, B_5, B_l⟩ := B2.out.c6
  clear hMp
  obtain ⟨mp, hmp⟩ : ∃ y, y = w1.heap.size := ⟨_, rfl⟩
  have HMP := Lib.hid (show w.heap.size < mp by rw [hmp]; exact HB9.out)
  rw [← hmp] at HM2 ⊢
  clear hmp HB9
  refine (largestD_any b n D U _ HDG.out HT2.out).mono ?_
  rintro e w3 ⟨⟨g0, c0, A, c, rfl, hL⟩, hb⟩
  have hB3 : Below w2.heap.size w2 w3 := bTrans (Below.refl _ _) hb
  have HD3 := Lib.hid (bTrans HD2.out hB3)
  have HT3 := Lib.hid (HT2.out.mono hB3)
  have HM3 := Lib.hid (HM2.out.mono hB3)
  have HL3 := Lib.hid (hL)
  have B3 := Lib.hid (B2.out.mono hB3)
  clear hb hB3 HD2 HT2 HM2 B2 B_0 B_1 B_2 B_3 B_4 B_5 B_l
  obtain ⟨B_0, B_1, B_2, B_3, B_4, B_5, B_l⟩ := B3.out.c6
  clear hL
  go_wp2_with fail
  clear B_0 B_1 B_2 B_3 B_4 B_5 B_l
  obtain ⟨W, hW⟩ : ∃ y, y = w3 := ⟨_, rfl⟩
  subst hW
  have HLg := Lib.hid HL3.out
  go_loopw [24] (fun s24 wr => ∃ k : Nat, k ≤ 1 ∧ s24 = .int .i64 (k : Int) ∧ (k = 0 → MapAt wr mp 0) ∧ (k = 1 → MapAt wr mp n) ∧ W.grownBy wr (some mp)) (fun s24 _ => 1 - (intOf s24).toNat)
  case atStart => exact ⟨0, Nat.zero_le _, rfl, fun _ => HM3.out, (fun h => by cases h), World.grownBy.refl _ _⟩
  case round =>
    obtain ⟨k, hk, rfl, hm0, hm1, hg⟩ := hrel
    have hkp : Kept [87, 89, 41] W wr := HM3.out.keeps hg
    have HL5 := Lib.hid (HL3.out.kept ⟨hkp.1, fun b cs t fr hb ht => hkp.2 b cs t fr hb (List.mem_append_left [41] ht)⟩)
    have HD5 := Lib.hid (HD3.out.grown hg HD3.out.size (fun q hq => by injection hq with hq; have := HMP.out; omega))
    have HG := Lib.hid hg
    have HM0 := Lib.hid hm0
    have HM1 := Lib.hid hm1
    clear hm0 hm1 hg hkp
    by_cases hlt : k < 1
    case pos =>
      have h1k : (k : Int) < 1 := by omega
      have h0k : (0 : Int) ≤ (k : Int) := by omega
      have HLT := Lib.hid hlt
      obtain ⟨hg0, gc0⟩ := HL5.out.cell
      have gk : wr.cell? ⟨g0, k, none⟩ = some (.slice A n c) := by rw [show k = 0 by omega]; exact gc0
      clear gc0
      go_wp2_with fail
      clear gk hg0
      have HMr := Lib.hid (HM0.out (by omega))
      obtain ⟨V, hV⟩ : ∃ y, y = wr := ⟨_, rfl⟩
      subst hV
      go_loopw [30] (fun s30 wr => ∃ j : Nat, j ≤ n ∧ s30 = .int .i64 (j : Int) ∧ MapAt wr mp j ∧ V.grownBy wr (some mp)) (fun s30 _ => n - (intOf s30).toNat)
      case atStart => exact ⟨0, Nat.zero_le _, rfl, HMr.out, World.grownBy.refl _ _⟩
      case round =>
        obtain ⟨j, hj, rfl, hm, hg⟩ := hrel
        have hkp : Kept [87, 89, 41] V wr := HMr.out.keeps hg
        have HL6 := Lib.hid (HL5.out.kept ⟨hkp.1, fun b cs t fr hb ht => hkp.2 b cs t fr hb (List.mem_append_left [41] ht)⟩)
        have HG6 := Lib.hid hg
        have HM6 := Lib.hid hm
        clear hm hg hkp
        by_cases hlt2 : j < n
        case pos =>
          have h1j : (j : Int) < (n : Int) := by omega
          have h0j : (0 : Int) ≤ (j : Int) := by omega
          have hb_j : j < 100 := by have := HDG.out.n4; omega
          have HLJ := Lib.hid hlt2
          obtain ⟨pq, po, hA, hpl, p0, p1⟩ := HL6.out.prs.get hlt2
          subst hA
          simp only at p0 p1
          have HMA := Lib.hid (show MapAt (wr.alloc (.cells #[.int .i64 (j : Int), .int .i64 (j : Int)] 89)).drew mp j from (show MapAt (wr.alloc (.cells #[.int .i64 (j : Int), .int .i64 (j : Int)] 89)) mp j from HM6.out.mono (bAlloc (Below.refl _ _) _)))
          have hj5 : j < 5 := by have := HDG.out.n4; omega
          obtain ⟨w7, he7, hm7, hg7⟩ := entry_new hj5 HMA.out
          have hl6 := lookup_new hj5 HMA.out
          have hl7 := lookup_mid hj5 hm7
          obtain ⟨w8, hs8, hm8, hg8⟩ := store_new hm7
          have HM8 := Lib.hid hm8
          have HG8 := Lib.hid (World.grownBy.trans HG6.out (World.grownBy.trans (World.grownBy_alloc _ _ _) (World.grownBy.trans (show World.grownBy (wr.alloc (.cells #[.int .i64 (j : Int), .int .i64 (j : Int)] 89)) (wr.alloc (.cells #[.int .i64 (j : Int), .int .i64 (j : Int)] 89)).drew (some mp) from ⟨rfl, rfl, rfl, Nat.le_refl _, fun _ _ _ => rfl⟩) (World.grownBy.trans hg7 hg8))))
          clear hm7 hg7 hm8 hg8
          unfold pkV at he7 hl6 hl7
          go_wp2_with fail
          go_region
          go_wp2_with fail
          go_roundw
          case rel =>
            first
            | exact ⟨j + 1, HLJ.out, by go_num, HM8.out, HG8.out⟩
            | ((repeat apply Exists.intro)
               refine ⟨⟨j + 1, HLJ.out, ?_, HM8.out, HG8.out⟩, rfl⟩
               go_num)
          case measure => have := HLJ.out; simp [intOf]; omega
        have hjn : j = n := by omega
        subst hjn
        have hnj : ¬ (j : Int) < (j : Int) := by omega
        have HGT := Lib.hid (World.grownBy.trans HG.out HG6.out)
        go_wp2_with fail
        go_roundw
        case rel =>
          first
          | exact ⟨k + 1, HLT.out, by go_num, (fun h => by omega), fun _ => HM6.out, HGT.out⟩
          | ((repeat apply Exists.intro)
             refine ⟨⟨k + 1, HLT.out, ?_, (fun h => by omega), fun _ => HM6.out, HGT.out⟩, rfl⟩
             go_num)
        case measure => have := HLT.out; simp [intOf]; omega
    have hk1 : k = 1 := by omega
    have HMN := Lib.hid (HM1.out hk1)
    subst hk1
    obtain ⟨hg0, gc0⟩ := HL5.out.cell
    go_wp2_with fail
    clear gc0 hg0
    obtain ⟨V, hV⟩ : ∃ y, y = wr := ⟨_, rfl⟩
    subst hV
    go_loopw [11, 46] (fun s11 s46 wr => ∃ i : Nat, i ≤ n ∧ s46 = .int .i64 (i : Int) ∧ OwnE fqE wr V.heap.size s11 (diag i) ∧ Below V.heap.size V wr) (fun _ s46 _ => n - (intOf s46).toNat)
    case atStart => exact ⟨0, Nat.zero_le _, rfl, OwnE.nil _ _ _, Below.refl _ _⟩
    case round =>
      obtain ⟨i, hi, rfl, hown, hbel⟩ := hrel
      have HO := Lib.hid hown
      have HB := Lib.hid hbel
      have hz := hbel.size
      have HL6 := Lib.hid (HL5.out.mono hbel)
      clear hown hbel
      by_cases hlt3 : i < n
      case pos =>
        have h1i : (i : Int) < (n : Int) := by omega
        have h0i : (0 : Int) ≤ (i : Int) := by omega
        have hb_i : i < 100 := by have := HDG.out.n4; omega
        have HLI := Lib.hid hlt3
        obtain ⟨pq, po, hA, hpl, p0, p1⟩ := HL6.out.prs.get hlt3
        subst hA
        simp only at p0 p1
        have hl := lookup_old (w := wr.alloc (.cells #[.int .i64 (i : Int), .int .i64 (i : Int)] 89)) (mp := mp) (k := n) (i := i) (by have := HDG.out.n4; omega) hlt3 ((HMN.out.mono HB.out).mono (bAlloc (Below.refl _ _) _))
        unfold pkV at hl
        have HLE := Lib.hid (show (diag i).length ≤ 100000 by rw [diag_len]; omega)
        go_wp2_with (at_builtin; refine wpList_snocE fqG _ rfl (Operand.tmp 56) (Operand.tmp 58) rfl V.heap.size _ (diag i) (i, i) rfl ?q1 (wr.heap.size + 1) rfl ?q2 HLE.out ?q4 ?_)
        case q1 => exact (HO.out.mono (bAlloc (Below.refl _ _) _)).mono (bAlloc (Below.refl _ _) _)
        case q2 =>
          intro a u hu
          match a, hu with
          | 0, hu =>
            obtain rfl : Value.int .i64 (i : Int) = u := by simpa [fqE] using hu
            simp [go_sem]
          | 1, hu =>
            obtain rfl : Value.int .i64 (i : Int) = u := by simpa [fqE] using hu
            simp [go_sem]
        case q4 => simp <;> omega
        intro v' w57 hown5 hb57 _ _
        have HO5 := Lib.hid ((diag_succ i).symm ▸ hown5)
        have HB5 := Lib.hid (hb57 V.heap.size V (Nat.le_refl _) (HB.out.trans ((bAlloc (bAlloc (Below.refl wr.heap.size wr) _) _).mono hz)))
        clear hown5 hb57 hl
        go_wp2_with fail
        go_roundw
        case rel =>
          first
          | exact ⟨i + 1, HLI.out, by go_num, HO5.out, HB5.out⟩
          | ((repeat apply Exists.intro)
             refine ⟨⟨i + 1, HLI.out, ?_, HO5.out, HB5.out⟩, rfl⟩
             go_num)
        case measure => have := HLI.out; simp [intOf]; omega
      have hin : i = n := by omega
      subst hin
      obtain ⟨A3, c3, e3, _⟩ := HO.out.read
      subst e3
      rw [diag_len]
      have hni : ¬ (i : Int) < (i : Int) := by omega
      go_wp2_with fail
      go_ret2
      exact ⟨⟨_, _, rfl⟩, bTrans HD5.out HB.out⟩
end Go.Proofs.YtifkjnmnflhnoaaGreatDoor

namespace Go.Proofs.YtifkjnmnflhnoaaGreatDoor
open Go.RowKit Go.Sort
section
variable {P : Program} {md : Region.Mode} {ops : Array Oper}
end
end Go.Proofs.YtifkjnmnflhnoaaGreatDoor

namespace Go.Proofs.YtifkjnmnflhnoaaGreatDoor
open Go.RowKit Go.Sort
theorem owns_apart {w w' : World} {base : Nat} {e : TypeId} {size n : Nat} {u : Value} {xs : List Value} {row : Option Nat} (h : w.ownsRow base e size u n xs) (hg : w.grownBy w' row) (hn : ∀ g, u.ownBlock = some g → some g ≠ row) : w'.ownsRow base e size u n xs :=
  ⟨h.1, h.2.imp id fun ⟨g, cap, cur, h1, h2, h3, h4⟩ => ⟨g, cap, cur, h1, h2, (hg.block g (Array.getElem?_eq_some_iff.1 h3).1 (hn g (by rw [h1]; rfl))).trans h3, h4⟩⟩
def apartV (v u : Value) : Prop := ∀ g, v.ownBlock = some g → u.ownBlock ≠ some g
theorem apartV.symm {v u : Value} (h : apartV v u) : apartV u v := fun g h1 h2 => h g h2 h1
theorem owns_slice {w : World} {base : Nat} {e : TypeId} {size : Nat} {v : Value} {n : Nat} {xs : List Value} (h : w.ownsRow base e size v n xs) : ∃ A c, v = .slice A n c := by
  rcases h.2 with ⟨rfl, rfl⟩ | ⟨g, cap, cur, hv, _⟩
  · exact ⟨_, _, rfl⟩
  · exact ⟨_, _, hv⟩
end Go.Proofs.YtifkjnmnflhnoaaGreatDoor

namespace Go.Proofs.YtifkjnmnflhnoaaGreatDoor
open Go.RowKit Go.Sort
def entE : Elem Ent := { enc := fun x => [.int .i64 x.day, .int .i64 x.who, .slice x.ca 1 x.cc], size := 3, ty := 48, sl := 39, z := .agg #[.int .i64 0, .int .i64 0, .slice none 0 0], bytes := 40 }
theorem entG : entE.Good :=
  ⟨by kernel_rfl, by kernel_rfl, by decide, by decide, fun _ => rfl, fun x u hu => by
    rcases (by simpa [entE] using hu : u = .int .i64 x.day ∨ u = .int .i64 x.who ∨ u = .slice x.ca 1 x.cc) with rfl | rfl | rfl <;> rfl, by decide⟩
theorem wpList_snocE2 {α : Type} {E : Elem α} (g : E.Good) (w : World) {ops : Array Oper} {rest : List Oper} {o : Oper} {a : Act} {Q : Exit → Act → World → Prop} (hg : o.guard = none) (s x : Operand) (hop : o.op = Op.call { callee := Callee.builtin Builtin.append, args := #[s, x], argTypes := #[E.sl, E.sl] })
    (base : Nat) (v : Value) (l : List α) (y : α) (hs : a.eval s = v) (hown : OwnE E w base v l) (b : Nat) (hx : a.eval x = .slice (some ⟨b, 0, none⟩) 1 1) (hc : ∀ i u, (E.enc y)[i]? = some u → w.cell? ⟨b, i, none⟩ = some u) (hlen : l.length ≤ 100000) (hbase : base ≤ w.heap.size)
    (h : ∀ v' w', OwnE E w' base v' (l ++ [y]) → w.grownBy w' v.ownBlock → (v'.ownBlock = v.ownBlock ∨ ∀ g, v'.ownBlock = some g → w.heap.size ≤ g) → wpList Tryz.prog ops Q rest (a.put o.dst v') w') : wpList Tryz.prog ops Q (o :: rest) a w := by
  refine wpList_plain hg fun K hK => Oper.wp_of_stir (stir_own2 (R := fun w' v' => OwnE E w' base v' (l ++ [y]) ∧ w.grownBy w' v.ownBlock ∧ (v'.ownBlock = v.ownBlock ∨ ∀ g, v'.ownBlock = some g → w.heap.size ≤ g)) s x E.sl hop base E.ty E.z E.size E.bytes g.info g.und g.zs g.pos v l.length (E.cells l) hs hown ⟨b, 0, none⟩ 1 1 (E.enc y) hx (by rw [g.len, Nat.one_mul]) (fun j u hj => ?_) (fun u hu => g.one y u hu) (by unfold maxLen; omega) (by have := g.by_; exact Nat.le_trans (Nat.mul_le_mul (show l.length + 1 ≤ 100001 by omega) this) (by decide)) hbase fun v' w' h1 h2 h3 => ⟨?_, h2, h3⟩) fun v' w' _ hr => hK _ _ (h v' w' hr.1 hr.2.1 hr.2.2)
  · have := hc j u hj
    rwa [show (⟨b, 0, none⟩ : Addr).add j = ⟨b, j, none⟩ from by unfold Addr.add; split <;> simp_all]
  · show w'.ownsRow base E.ty E.size v' (l ++ [y]).length (E.cells (l ++ [y]))
    rw [List.length_append, show E.cells (l ++ [y]) = E.cells l ++ E.enc y from by simp [Elem.cells]]
    exact h1
/-- the span of an entry, in a box of its own -/
def SpE (w : World) (x : Ent) : Prop := ∃ b, x.ca = some ⟨b, 0, none⟩ ∧ TBox w b 43 #[.int .i64 (x.sp 0).1, .int .i64 (x.sp 0).2]
theorem SpE.mono {w w' : World} {x : Ent} (h : SpE w x) (hb : Below w.heap.size w w') : SpE w' x := by
  obtain ⟨b, h1, h2⟩ := h
  exact ⟨b, h1, h2.mono hb⟩
theorem SpE.kept {w w' : World} {x : Ent} (h : SpE w x) (hk : Kept [43] w w') : SpE w' x := by
  obtain ⟨b, h1, h2⟩ := h
  exact ⟨b, h1, h2.kept hk (by simp)⟩
theorem SpE.sps {w : World} {x : Ent} (h : SpE w x) : SpsAt w x.ca 1 x.sp := by
  obtain ⟨b, h1, h2⟩ := h
  rw [h1]
  exact .inr ⟨b, 0, rfl, h2.lt, fun i hi => by
    obtain rfl : i = 0 := by omega
    exact ⟨h2.cell 0, h2.cell 1⟩⟩
/-- two lists of entries that grow -/
structure Scr (W : World) (tb : Nat) (c0 c1 c2 c3 : Value) (V1 V2 : Value) (l1 l2 : List Ent) (w : World) : Prop where
  box : TBox w tb 41 #[c0, c1, c2, c3, V1, V2]
  r1 : OwnE entE w W.heap.size V1 l1
  r2 : OwnE entE w W.heap.size V2 l2
  ap : apartV V1 V2
  sp1 : ∀ x ∈ l1, SpE w x
  sp2 : ∀ x ∈ l2, SpE w x
  gr : W.grownBy w (some tb)
  lt : tb < W.heap.size
theorem Scr.mono {W : World} {tb : Nat} {c0 c1 c2 c3 V1 V2 : Value} {l1 l2 : List Ent} {w w' : World} (h : Scr W tb c0 c1 c2 c3 V1 V2 l1 l2 w) (hb : Below w.heap.size w w') : Scr W tb c0 c1 c2 c3 V1 V2 l1 l2 w' :=
  ⟨h.box.mono hb, h.r1.mono hb, h.r2.mono hb, h.ap, fun x hx => (h.sp1 x hx).mono hb, fun x hx => (h.sp2 x hx).mono hb, World.grownBy.trans h.gr (grown_of hb _), h.lt⟩
theorem own_fresh {w : World} {base : Nat} {V u : Value} {l : List Ent} (h : OwnE entE w base u l) (hf : ∀ g, V.ownBlock = some g → w.heap.size ≤ g) : apartV V u := fun g h1 h2 => by
  have a := hf g h1
  have b := (World.ownsRow.lt h g h2).2
  omega
theorem own_ne {w : World} {base tb : Nat} {V : Value} {l : List Ent} (h : OwnE entE w base V l) (ht : tb < base) : some tb ≠ V.ownBlock := fun e => by
  have := (World.ownsRow.lt h tb e.symm).1
  omega
theorem kept_own {w w5 : World} {base : Nat} {V : Value} {l : List Ent} (h : OwnE entE w base V l) (hg : w.grownBy w5 V.ownBlock) {tb : Nat} {cs : Array Value} (hb : TBox w5 tb 41 cs) (o : Nat) (v : Value) : Kept [43] w (w5.setCell ⟨tb, o, none⟩ v) :=
  (Kept.of_own hg h (by decide)).trans (Kept.set hb (by decide) o v)
theorem grown_row {W w w5 : World} {tb : Nat} {row : Option Nat} (h : W.grownBy w (some tb)) (hg : w.grownBy w5 row) (hr : ∀ q, row = some q → W.heap.size ≤ q) : W.grownBy w5 (some tb) :=
  ⟨hg.os.trans h.os, hg.tape.trans h.tape, hg.output.trans h.output, Nat.le_trans h.size hg.size, fun k hk hne => (hg.block k (Nat.lt_of_lt_of_le hk h.size) (fun e => by have := hr k e.symm; omega)).trans (h.block k hk hne)⟩
theorem grown_bk {W w : World} {tb : Nat} (h : W.grownBy w (some tb)) (o : Nat) (v : Value) : W.grownBy (w.setCell ⟨tb, o, none⟩ v) (some tb) :=
  World.grownBy.trans h ⟨rfl, rfl, rfl, by simp [World.setCell], fun k _ hne => Below.heap_setCell _ _ _ _ (fun e => hne (by rw [e]))⟩
theorem Scr.app1 {W : World} {tb : Nat} {c0 c1 c2 c3 V1 V2 : Value} {l1 l2 : List Ent} {w w5 : World} {v' : Value} {x : Ent} (h : Scr W tb c0 c1 c2 c3 V1 V2 l1 l2 w) (hx : SpE w x) (h5 : OwnE entE w5 W.heap.size v' (l1 ++ [x])) (hg : w.grownBy w5 V1.ownBlock) (hd : v'.ownBlock = V1.ownBlock ∨ ∀ g, v'.ownBlock = some g → w.heap.size ≤ g) :
    Scr W tb c0 c1 c2 c3 v' V2 (l1 ++ [x]) l2 (w5.setCell ⟨tb, 4, none⟩ v') := by
  have hb5 := h.box.grown hg (own_ne h.r1 h.lt)
  have hk := kept_own h.r1 hg hb5 4 v'
  have hap : apartV v' V2 := by
    rcases hd with e | hf
    · intro g h1
      rw [e] at h1
      exact h.ap g h1
    · exact own_fresh h.r2 hf
  refine ⟨by have := hb5.set 4 v'; simpa using this, OwnE.set h5 h.lt _ _, OwnE.set (owns_apart h.r2 hg (fun g h1 h2 => h.ap g h2.symm h1)) h.lt _ _, hap, fun y hy => ?_, fun y hy => (h.sp2 y hy).kept hk, grown_bk (grown_row h.gr hg (fun q hq => (World.ownsRow.lt h.r1 q hq).1)) _ _, h.lt⟩
  rcases List.mem_append.1 hy with hy | hy
  · exact (h.sp1 y hy).kept hk
  · rw [List.mem_singleton.1 hy]; exact hx.kept hk
theorem Scr.app2 {W : World} {tb : Nat} {c0 c1 c2 c3 V1 V2 : Value} {l1 l2 : List Ent} {w w5 : World} {v' : Value} {x : Ent} (h : Scr W tb c0 c1 c2 c3 V1 V2 l1 l2 w) (hx : SpE w x) (h5 : OwnE entE w5 W.heap.size v' (l2 ++ [x])) (hg : w.grownBy w5 V2.ownBlock) (hd : v'.ownBlock = V2.ownBlock ∨ ∀ g, v'.ownBlock = some g → w.heap.size ≤ g) :
    Scr W tb c0 c1 c2 c3 V1 v' l1 (l2 ++ [x]) (w5.setCell ⟨tb, 5, none⟩ v') := by
  have hb5 := h.box.grown hg (own_ne h.r2 h.lt)
  have hk := kept_own h.r2 hg hb5 5 v'
  have hap : apartV V1 v' := by
    rcases hd with e | hf
    · intro g h1 h2
      rw [e] at h2
      exact h.ap g h1 h2
    · exact (own_fresh h.r1 hf).symm
  refine ⟨by have := hb5.set 5 v'; simpa using this, OwnE.set (owns_apart h.r1 hg (fun g h1 h2 => h.ap g h1 h2.symm)) h.lt _ _, OwnE.set h5 h.lt _ _, hap, fun y hy => (h.sp1 y hy).kept hk, fun y hy => ?_, grown_bk (grown_row h.gr hg (fun q hq => (World.ownsRow.lt h.r2 q hq).1)) _ _, h.lt⟩
  rcases List.mem_append.1 hy with hy | hy
  · exact (h.sp2 y hy).kept hk
  · rw [List.mem_singleton.1 hy]; exact hx.kept hk
/-! ### the books -/
def dE0 : Ent := ⟨0, 0, none, 0, fun _ => (0, 0)⟩
def getE (l : List Ent) (i : Nat) : Ent := l[i]?.getD dE0
structure EntL (day : Int) (S : Nat → Int × Int) (n : Nat) (l : List Ent) : Prop where
  len : l.length = n
  at_ : ∀ (i : Nat) (x : Ent), l[i]? = some x → x.day = day ∧ x.who = (i : Int) ∧ x.sp 0 = S i
theorem EntL.nil (day : Int) (S : Nat → Int × Int) : EntL day S 0 [] := ⟨rfl, fun i x h => by simp at h⟩
theorem EntL.snoc {day : Int} {S : Nat → Int × Int} {n : Nat} {l : List Ent} {x : Ent} (h : EntL day S n l) (h1 : x.day = day) (h2 : x.who = (n : Int)) (h3 : x.sp 0 = S n) : EntL day S (n + 1) (l ++ [x]) :=
  ⟨by rw [List.length_append, h.len]; rfl, fun i y hy => by
    rcases Nat.lt_or_ge i n with hl | hl
    · rw [List.getElem?_append_left (by rw [h.len]; exact hl)] at hy
      exact h.at_ i y hy
    · rw [List.getElem?_append_right (by rw [h.len]; exact hl), h.len] at hy
      rcases Nat.eq_or_lt_of_le hl with e | e
      · subst e
        rw [Nat.sub_self] at hy
        obtain rfl : x = y := by simpa using hy
        exact ⟨h1, h2, h3⟩
      · rw [List.getElem?_eq_none (by simp; omega)] at hy
        cases hy⟩
theorem EntL.get {day : Int} {S : Nat → Int × Int} {n : Nat} {l : List Ent} (h : EntL day S n l) {i : Nat} (hi : i < n) : l[i]? = some (getE l i) ∧ (getE l i).day = day ∧ (getE l i).who = (i : Int) ∧ (getE l i).sp 0 = S i := by
  obtain ⟨x, hx⟩ : ∃ x, l[i]? = some x := ⟨_, List.getElem?_eq_getElem (by rw [h.len]; exact hi)⟩
  have e : getE l i = x := by unfold getE; rw [hx]; rfl
  rw [e]
  exact ⟨hx, h.at_ i x hx⟩
theorem ents_of {w : World} {base : Nat} {A : Option Addr} {n c : Nat} {l : List Ent} (h : OwnE entE w base (.slice A n c) l) (hn : l.length = n) (hs : ∀ x ∈ l, SpE w x) : EntsAt w A n 1 (getE l) := by
  rcases Nat.eq_zero_or_pos n with h0 | h0
  · exact .inl h0
  obtain ⟨A', c', e, hr⟩ := h.read
  simp only [Value.slice.injEq] at e
  obtain ⟨rfl, _, rfl⟩ := e
  rcases hr with hr | ⟨b, o, rfl, hlt, hc⟩
  · have := congrArg List.length hr
    rw [Elem.cells_len entG, hn] at this
    simp [entE] at this
    omega
  · refine .inr ⟨b, o, rfl, hlt, fun i hi => ?_⟩
    have hx : l[i]? = some (getE l i) := by
      obtain ⟨x, hx⟩ : ∃ x, l[i]? = some x := ⟨_, List.getElem?_eq_getElem (by omega)⟩
      unfold getE
      rw [hx]
      rfl
    exact ⟨hc (i * 3) _ (Elem.cells_get entG (l := l) (j := i) 0 hx (by decide)), hc (i * 3 + 1) _ (Elem.cells_get entG (l := l) (j := i) 1 hx (by decide)), hc (i * 3 + 2) _ (Elem.cells_get entG (l := l) (j := i) 2 hx (by decide)), (hs _ (List.mem_of_getElem? hx)).sps⟩
def scrB (m dy : Int) (n : Nat) (A1 : Option Addr) (c1 : Nat) (A2 : Option Addr) (c2 : Nat) (l1 l2 : List Ent) : Bk := ⟨10, 1, m, dy, n, n, A1, c1, A2, c2, getE l1, getE l2⟩
theorem scr_dg {dy : Int} {n : Nat} {A1 : Option Addr} {c1 : Nat} {A2 : Option Addr} {c2 : Nat} {l1 l2 : List Ent} {S U : Nat → Int × Int} (hn : n ≤ 4) (hd : 0 ≤ dy ∧ dy ≤ 30) (h1 : EntL 0 S n l1) (h2 : EntL dy U n l2)
    (hb : ∀ i, i < n → 0 ≤ (S i).1 ∧ (S i).1 ≤ (U i).1 ∧ (U i).1 ≤ (U i).2 ∧ (U i).2 ≤ (S i).2 ∧ (S i).2 ≤ 9) : Dg (scrB (n : Int) dy n A1 c1 A2 c2 l1 l2) n dy U := by
  have hc : ∀ i, i < n → comF (getE l1 i) (getE l2 i) 0 = U i := fun i hi => by
    obtain ⟨_, _, _, e1⟩ := h1.get hi
    obtain ⟨_, _, _, e2⟩ := h2.get hi
    have := hb i hi
    unfold comF
    rw [e1, e2]
    refine Prod.ext ?_ ?_
    · show max (S i).1 (U i).1 = (U i).1
      omega
    · show min (S i).2 (U i).2 = (U i).2
      omega
  have hdd : ∀ i, i < n → dayD (getE l1 i) (getE l2 i) = dy := fun i hi => by
    obtain ⟨_, e1, _⟩ := h1.get hi
    obtain ⟨_, e2, _⟩ := h2.get hi
    unfold dayD
    rw [e1, e2]
    omega
  have ho : ∀ (l : List Ent) (day : Int) (R : Nat → Int × Int), EntL day R n l → (0 ≤ day ∧ day ≤ 99) → (∀ i, i < n → 0 ≤ (R i).1 ∧ (R i).1 ≤ (R i).2 ∧ (R i).2 < 10) → ∀ i, i < n → EntOk (scrB (n : Int) dy n A1 c1 A2 c2 l1 l2) (getE l i) := fun l day R h hday hR i hi => by
    obtain ⟨_, e1, e2, e3⟩ := h.get hi
    refine ⟨by rw [e1]; exact hday, by rw [e2]; show 0 ≤ (i : Int) ∧ (i : Int) ≤ (n : Int) - 1; omega, fun j hj => ?_⟩
    obtain rfl : j = 0 := by have : j < 1 := hj; omega
    rw [e3]
    exact hR i hi
  refine ⟨⟨by show (2 : Int) ≤ 10 ∧ (10 : Int) ≤ 10; decide, by show 1 ≤ 1 ∧ 1 ≤ 4; decide, by show (0 : Int) ≤ (n : Int) ∧ (n : Int) ≤ 4; omega, hd, by show n ≤ 5; omega, by show n ≤ 5; omega, ho l1 0 S h1 (by decide) (fun i hi => by have := hb i hi; omega), ho l2 dy U h2 (by omega) (fun i hi => by have := hb i hi; omega)⟩, rfl, rfl, hn, fun i j hi hj => ?_, fun i hi => (h2.get hi).2.2.1, hdd, by omega, fun i hi j hj => ?_, fun i hi => ?_, fun i hi => by have := hb i hi; omega⟩
  · show comB dy (getE l1 i) (getE l2 j) 1 = (i == j)
    obtain ⟨_, _, w1, _⟩ := h1.get hi
    obtain ⟨_, _, w2, _⟩ := h2.get hj
    show (decide ((getE l1 i).who = (getE l2 j).who) && decide (dayD (getE l1 i) (getE l2 j) ≤ dy) && decide ((comF (getE l1 i) (getE l2 j) 0).1 ≤ (comF (getE l1 i) (getE l2 j) 0).2)) = (i == j)
    rw [w1, w2]
    by_cases e : i = j
    · subst e
      rw [hc i hi, hdd i hi]
      have := hb i hi
      simp
      omega
    · have e1 : ¬ ((i : Int) = (j : Int)) := by omega
      simp [e, e1]
  · obtain rfl : j = 0 := by have : j < 1 := hj; omega
    have e := hc i hi
    show 0 ≤ (comF (getE l1 i) (getE l2 i) 0).1 ∧ (comF (getE l1 i) (getE l2 i) 0).1 ≤ (comF (getE l1 i) (getE l2 i) 0).2 ∧ (comF (getE l1 i) (getE l2 i) 0).2 < 10
    rw [e]
    have := hb i hi
    omega
  · show endsF 10 (comF (getE l1 i) (getE l2 i)) 1 = U i
    have e := hc i hi
    show ((0 : Int) * 10 + (comF (getE l1 i) (getE l2 i) 0).1, (0 : Int) * 10 + (comF (getE l1 i) (getE l2 i) 0).2) = U i
    rw [e]
    simp
end Go.Proofs.YtifkjnmnflhnoaaGreatDoor

namespace Go.Proofs.YtifkjnmnflhnoaaGreatDoor
open Go.RowKit Go.Sort Go.Shelf
section
variable {P : Program} {ops : Array Oper} {md : Region.Mode} {F : Fence} {k : Nat}
end
end Go.Proofs.YtifkjnmnflhnoaaGreatDoor

namespace Go.Proofs.YtifkjnmnflhnoaaGreatDoor
open Go.RowKit Go.Sort Go.Shelf
section
variable {P : Program} {ops : Array Oper} {n : Nat} {F : Fence} {Cl : (Nat → Bool) → World → Prop}
/-- what the operations owe -/
def wpLst (P : Program) (ops : Array Oper) (Cl : (Nat → Bool) → World → Prop) (Q : Act → Prop) : Nat → List Oper → List Value → Act → Prop
  | _, [], [], a => Q a
  | k, o :: rest, c :: cs, a => (if Region.wanted o (yielded ops a.tmps) then ∀ L w', Cl L w' → L k = false → (∀ i j, L i = true → reach .any ops 6 i j = true → L j = true) → clsAt P (Cl fun j => L j || j == k) o a w' c else c = undef ∧ ∀ L w', Cl L w' → Cl (fun j => L j || j == k) w') ∧ wpLst P ops Cl Q (k + 1) rest cs (a.put o.dst c)
  | _, _, _, _ => False
theorem wpLst_nil {Q : Act → Prop} {a : Act} {k : Nat} (h : Q a) : wpLst P ops Cl Q k [] [] a := h
theorem wpLst_do {Q : Act → Prop} {o : Oper} {rest : List Oper} {c : Value} {cs : List Value} {a : Act} {k : Nat} (hg : o.guard = none) (h1 : ∀ L w', Cl L w' → L k = false → (∀ i j, L i = true → reach .any ops 6 i j = true → L j = true) → clsAt P (Cl fun j => L j || j == k) o a w' c) (h2 : wpLst P ops Cl Q (k + 1) rest cs (a.put o.dst c)) : wpLst P ops Cl Q k (o :: rest) (c :: cs) a := by
  refine ⟨?_, h2⟩
  unfold Region.wanted
  rw [hg, if_pos rfl]
  exact h1
theorem wpLst_at {Q : Act → Prop} {V : Nat → Value} {cs0 : List Value} {a0 : Act} (hV : ∀ (k : Nat) (c : Value), cs0[k]? = some c → V k = c) :
    ∀ (cs : List Value) (k : Nat) (l : List Oper), (∀ j, l[j]? = ops[k + j]?) → (∀ j, cs[j]? = cs0[k + j]?) → k + cs.length = cs0.length → wpLst P ops Cl Q k l cs (frameOf ops V (fun _ => true) a0 k) →
      (∀ j, k ≤ j → j < cs0.length → ∃ o, ops[j]? = some o ∧ if Region.wanted o (yielded ops (frameOf ops V (fun _ => true) a0 j).tmps) then ∀ L w', Cl L w' → L j = false → (∀ i j, L i = true → reach .any ops 6 i j = true → L j = true) → clsAt P (Cl fun i => L i || i == j) o (frameOf ops V (fun _ => true) a0 j) w' (V j) else V j = undef ∧ ∀ L w', Cl L w' → Cl (fun i => L i || i == j) w') ∧ Q (frameOf ops V (fun _ => true) a0 cs0.length)
  | [], k, [], _, hh, hn, H => by
    have e : k = cs0.length := by simpa using hn
    subst e
    exact ⟨fun j hj hj2 => by omega, H⟩
  | [], k, _ :: _, hl, hh, hn, H => H.elim
  | c :: cs, k, [], hl, hh, hn, H => H.elim
  | c :: cs, k, o :: l, hl, hh, hn, H => by
    have h0 : ops[k]? = some o := by simpa using (hl 0).symm
    have h1 : cs0[k]? = some c := by simpa using (hh 0).symm
    obtain ⟨H1, H2⟩ := H
    have e1 : frameOf ops V (fun _ => true) a0 (k + 1) = (frameOf ops V (fun _ => true) a0 k).put o.dst c := by
      rw [frameOf, if_pos rfl]; simp [dstOf, h0, hV k c h1]
    obtain ⟨g1, g2⟩ := wpLst_at hV cs (k + 1) l (fun j => by have := hl (j + 1); simpa [Nat.add_assoc, Nat.add_comm 1 j] using this) (fun j => by have := hh (j + 1); simpa [Nat.add_assoc, Nat.add_comm 1 j] using this) (by simp only [List.length_cons] at hn; omega) (by rw [e1]; exact H2)
    refine ⟨fun j hj hj2 => ?_, g2⟩
    rcases Nat.eq_or_lt_of_le hj with e | e
    · subst e
      exact ⟨o, h0, by rw [hV k c h1]; exact H1⟩
    · exact g1 j e hj2
theorem wpIn_region_lst {rid : Nat} {Q : Exit → Act → World → Prop} {a : Act} {w : World} {l : List Oper} (hF : Open F P) (cs : List Value) (Cl : (Nat → Bool) → World → Prop) (hm : P.follows .mixedOrders = true) (hB : (orderedB .any l.toArray && noDefer l.toArray) = true) (hn : cs.length = l.length) (h0 : Cl (fun _ => false) { w with drawn := w.drawn + 1 })
    (h : wpLst P l.toArray Cl (fun a' => ∀ L w', (∀ j, j < l.length → L j = true) → Cl L w' → Q .normal a' w') 0 l cs a) : (Code.region rid l.toArray true).wpIn F n P Q a w := by
  rw [Bool.and_eq_true] at hB
  obtain ⟨hord, hnd⟩ := hB
  have H := ordered_of hord
  have hsz : l.toArray.size = l.length := by simp
  obtain ⟨V, hVd⟩ : ∃ V : Nat → Value, V = fun k => cs[k]?.getD undef := ⟨_, rfl⟩
  have hV : ∀ (k : Nat) (c : Value), cs[k]? = some c → V k = c := fun k c hk => by rw [hVd]; simp [hk]
  obtain ⟨key, fin⟩ := wpLst_at (P := P) (ops := l.toArray) (Cl := Cl) (a0 := a) hV cs 0 l (fun j => by simp) (fun j => by simp) (by omega) h
  rw [hn] at fin key
  refine wpIn_region_any hm ?_
  refine wpAnyIn_inv (fun listed a' w' => a' = frameOf l.toArray V (fun k => listed.getD k false) a l.toArray.size ∧ Cl (fun k => listed.getD k false) w') ?_ ?_ _ _ _ _ (left_le _ _) Shut.none ⟨?_, ?_⟩
  · rintro listed a' w' i hsh ⟨rfl, hc⟩ hr
    obtain ⟨hun, oi, hoi, _⟩ := mem_ready.1 hr
    have hi : i < l.toArray.size := (Array.getElem?_eq_some_iff.1 hoi).1
    have hil : i < listed.size := by rw [hsh.size]; exact hi
    have hunf := listed_both hun
    have hset : (listed.setIfInBounds i true).getD i false = true := set_same hil false
    have hflag : (fun k => (listed.setIfInBounds i true).getD k false) = fun j => listed.getD j false || j == i := by
      funext j
      by_cases e : j = i
      · subst e; rw [hset]; simp
      · rw [getD_set_ne false (Ne.symm e)]; simp [e]
    obtain ⟨o', ho', hask⟩ := key i (Nat.zero_le _) (by omega)
    obtain rfl : oi = o' := Option.some.inj (hoi.symm.trans ho')
    have hsee := H.sees (V := V) (V' := V) (M := fun _ => true) (a := a) hsh hoi hr (fun k _ hk => by cases hk) (fun _ _ => rfl)
    have hput : (frameOf l.toArray V (fun k => listed.getD k false) a l.toArray.size).put oi.dst (V i) = frameOf l.toArray V (fun k => (listed.setIfInBounds i true).getD k false) a l.toArray.size := by
      have e1 : dstOf l.toArray i = oi.dst := by simp [dstOf, hoi]
      rw [H.frame_put hsh hi hun, e1]
    unfold Go.wpOpIn
    simp only [hoi]
    rw [wanted_of_slots hsee]
    by_cases hwt : Region.wanted oi (yielded l.toArray (frameOf l.toArray V (fun _ => true) a i).tmps) = true
    · rw [if_pos hwt] at hask
      rw [if_pos hwt]
      refine wpIn_of_cls hF (noDefer_spec hnd hoi) (v := V i) (Cl := Cl fun j => listed.getD j false || j == i) ?_ fun w'' hc' => ⟨hput, by rw [hflag]; exact hc'⟩
      have h1 := hask (fun k => listed.getD k false) w' hc hunf fun i j hi hj => reach_listed2 hsh 6 i j hi hj
      unfold clsAt at h1 ⊢
      rwa [exec_of_slots (ops := l.toArray) (fun cs b => Region.noSelect_spec H.sel i oi cs b hoi) hsee]
    · rw [if_neg hwt] at hask
      rw [if_neg hwt]
      refine ⟨fun f _ => hF.fn f, ?_, by rw [hflag]; exact hask.2 _ _ hc⟩
      rw [← hask.1]
      exact hput
  · rintro listed a' w' hsh ⟨rfl, hc⟩ hr
    have hall := H.all hsh hr
    have e1 : frameOf l.toArray V (fun k => listed.getD k false) a l.toArray.size = frameOf l.toArray V (fun _ => true) a l.toArray.size := frameOf_congr _ fun j hj => ⟨hall j (by omega), fun _ => rfl⟩
    rw [e1, hsz]
    exact fin _ w' (fun j hj => hall j (by omega)) hc
  · refine (frameOf_none (fun k => ?_) _).symm
    rcases Nat.lt_or_ge k l.length with h' | h' <;> simp [h']
  · have : (fun k => (Array.replicate l.toArray.size false).getD k false) = fun _ => false := by
      funext k
      rcases Nat.lt_or_ge k l.length with h' | h' <;> simp [h']
    rw [this]
    exact h0
end
end Go.Proofs.YtifkjnmnflhnoaaGreatDoor

