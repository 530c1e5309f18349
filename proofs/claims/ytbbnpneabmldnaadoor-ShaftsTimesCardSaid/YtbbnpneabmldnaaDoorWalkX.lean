/- Walk: find, with the comparison by rings. -/
import Derived.Test.YtbbnpneabmldnaaDoorWalkW
namespace Go.Proofs.YtbbnpneabmldnaaDoor
open Go.RowKit Go.Sort
/-- what find hands back -/
def Sought (w w' : World) (Ar Af : Option Addr) (cr cf : Nat) (S : Sh) (f : Nat → Way) (e : Ending) : Prop :=
  Below w.heap.size w w' ∧ ((¬ S.Ok ∧ e = .returned (.tuple #[.agg #[.slice none 0 0, .slice none 0 0, .int .i64 0, .int .i64 0, .int .i64 0], .agg #[.int .i64 (-1), .int .i64 0, .int .i64 0], .slice none 0 0, .int .i64 20])) ∨
    (S.Ok ∧ f 0 = noWay ∧ e = .returned (.tuple #[.agg #[.slice none 0 0, .slice none 0 0, .int .i64 0, .int .i64 0, .int .i64 0], .agg #[.int .i64 (-1), .int .i64 0, .int .i64 0], .slice none 0 0, .int .i64 3])) ∨
    (S.Ok ∧ f 0 ≠ noWay ∧ ∃ A m c g, e = .returned (.tuple #[.agg #[.slice Ar S.nr cr, .slice Af S.nf cf, .int .i64 S.deep, .int .i64 S.haul, .int .i64 S.rest], .agg #[.int .i64 (f 0).rings, .int .i64 (f 0).pence, .int .i64 (f 0).next], .slice A m c, .int .i64 0]) ∧ m ≤ S.nf ∧ ChainTo f m g ∧ ¬ 0 < (f (stopAt g m)).next ∧ IntsAt w' A m g ∧ ∀ p, A = some p → w.heap.size ≤ p.block))
theorem IntsAt.alloc {w : World} {A : Option Addr} {n : Nat} {g : Nat → Int} (h : IntsAt w A n g) (o : Obj) : IntsAt (w.alloc o) A n g := h.mono (bAlloc (Below.refl _ _) _)
theorem IntsAt.drew {w : World} {A : Option Addr} {n : Nat} {g : Nat → Int} (h : IntsAt w A n g) : IntsAt w.drew A n g := h.mono (bDrew (Below.refl _ _))
set_option maxHeartbeats 8000000 in
set_option maxRecDepth 100000 in
theorem find_fewer (Ar Af : Option Addr) (cr cf : Nat) (S : Sh) (w : World) (hr : S.nr ≤ 9223372036854775807) (hf : S.nf ≤ 9223372036854775807) (hS : ShAt w Ar Af S) (hN : NoneAt w) :
    Calls Tryd.prog 73 #[.agg #[.slice Ar S.nr cr, .slice Af S.nf cf, .int .i64 S.deep, .int .i64 S.haul, .int .i64 S.rest], .func (.func 79) #[] #[]] w fun e w' => Sought w w' Ar Af cr cf S (S.waysOf ltR S.nf) e := by
  have hb0 := bAlloc (bAlloc (bAlloc (Below.refl w.heap.size w) (.cells #[.slice Ar S.nr cr, .slice Af S.nf cf, .int .i64 S.deep, .int .i64 S.haul, .int .i64 S.rest] 25)) (.cells #[.slice none 0 0, .slice none 0 0, .int .i64 0, .int .i64 0, .int .i64 0] 75)) (.cells #[.int .i64 0, .int .i64 0, .int .i64 0] 84)
  have HS := Lib.hid (hS.mono hb0)
  have HN := Lib.hid (hN.mono hb0)
  have HB := Lib.hid hb0
  obtain ⟨n0, n1, n2, n3⟩ := hN
  clear hS hb0
  by_cases hok : S.Ok
  · have hnf := hok.nf
    have hm : min 12 S.nf = S.nf := by omega
    generalize hff : S.waysOf ltR S.nf = f
    have HF := Lib.hid hff
    have HM := Lib.hid hm
    clear hff hm
    go_enter Tryd.func73, Tryd.ntmps73
    go_wp2_with (first | (go_at_call 67; refine (open_yes _ _ _ _ S _ hok HS.out).mono ?_; rintro e w1 ⟨rfl, hb1⟩; obtain ⟨bc1, bf1⟩ := bcell hb1; have hz1 := hb1.size; simp only [World.size_alloc] at hz1; have hy1 : w.heap.size + 2 < w1.heap.size := (by omega); have hx1 : w.heap.size + 1 < w1.heap.size := (by omega); have hw1 : w.heap.size < w1.heap.size := (by omega); have ho1 : 0 < w1.heap.size := (by omega); have HS1 := Lib.hid (HS.out.mono hb1); have HN1 := Lib.hid (HN.out.mono hb1)) | (go_at_call 77; refine (best_fewer _ _ _ _ S _ hok (HS1.out.mono (bAlloc (Below.refl _ _) _)) (HN1.out.mono (bAlloc (Below.refl _ _) _)) 12 (Nat.le_refl _)).mono ?_; rintro e w2 ⟨hb2, h2⟩; rw [HM.out, HF.out] at h2; obtain ⟨bc2, bf2⟩ := bcell hb2; have hz2 := hb2.size; simp only [World.size_alloc] at hz2; have hy2 : w.heap.size + 2 < w2.heap.size := (by omega); have hx2 : w.heap.size + 1 < w2.heap.size := (by omega); have hv2 : w1.heap.size < w2.heap.size := (by omega); have ho2 : 0 < w2.heap.size := (by omega); rcases h2 with ⟨h20, rfl⟩ | ⟨h20, A, m, c, g, rfl, hmn, hch, hend, hI, hblk⟩))
    · go_region
      go_wp2_with fail
      exact bodyPost_ret (v := .tuple #[.agg #[.slice none 0 0, .slice none 0 0, .int .i64 0, .int .i64 0, .int .i64 0], .agg #[.int .i64 (-1), .int .i64 0, .int .i64 0], .slice none 0 0, .int .i64 3]) (by simp [results, Tryd.results73, go_sem, *]) rfl ⟨by (repeat (first | (with_reducible exact Below.refl _ _) | (with_reducible refine bAlloc ?_ _) | (with_reducible refine bDrew ?_) | (with_reducible refine bGrow ?_ _ _) | (with_reducible refine bSet ?_ ?_ _; (first | exact Nat.le_refl _ | exact Nat.le_add_right _ _ | (simp; omega))) | (with_reducible refine bTrans ?_ (by assumption)))), .inr (.inl ⟨hok, h20, rfl⟩)⟩
    · have HI := Lib.hid hI
      have h1 : ∀ q, A = some q → q.block ≠ w.heap.size + 1 := fun q hq => by have := hblk q hq; simp only [World.size_alloc] at this; omega
      have h2 : ∀ q, A = some q → q.block ≠ w.heap.size + 1 + 1 := fun q hq => by have := hblk q hq; simp only [World.size_alloc] at this; omega
      have HK := Lib.hid (fun p (hp : A = some p) => (show w.heap.size ≤ p.block from by have := hblk p hp; simp only [World.size_alloc] at this; omega))
      have H1 := Lib.hid h1
      have H2 := Lib.hid h2
      clear hI hblk h1 h2
      go_region
      go_wp2_with fail
      refine bodyPost_ret (v := .tuple #[.agg #[.slice Ar S.nr cr, .slice Af S.nf cf, .int .i64 S.deep, .int .i64 S.haul, .int .i64 S.rest], .agg #[.int .i64 (f 0).rings, .int .i64 (f 0).pence, .int .i64 (f 0).next], .slice A m c, .int .i64 0]) (by simp [results, Tryd.results73, go_sem, *]) rfl ⟨by (repeat (first | (with_reducible exact Below.refl _ _) | (with_reducible refine bAlloc ?_ _) | (with_reducible refine bDrew ?_) | (with_reducible refine bGrow ?_ _ _) | (with_reducible refine bSet ?_ ?_ _; (first | exact Nat.le_refl _ | exact Nat.le_add_right _ _ | (simp; omega))) | (with_reducible refine bTrans ?_ (by assumption)))), .inr (.inr ⟨hok, h20, A, m, c, g, rfl, hmn, hch, by omega, ?_, HK.out⟩)⟩
      refine IntsAt.drew (IntsAt.alloc ?_ _)
      exact ((((((((HI.out.other (p := ⟨w.heap.size + 1, 0, none⟩) H1.out _).other (p := ⟨w.heap.size + 1, 1, none⟩) H1.out _).other (p := ⟨w.heap.size + 1, 2, none⟩) H1.out _).other (p := ⟨w.heap.size + 1, 3, none⟩) H1.out _).other (p := ⟨w.heap.size + 1, 4, none⟩) H1.out _).other (p := ⟨w.heap.size + 1 + 1, 0, none⟩) H2.out _).other (p := ⟨w.heap.size + 1 + 1, 1, none⟩) H2.out _).other (p := ⟨w.heap.size + 1 + 1, 2, none⟩) H2.out _)
  · go_enter Tryd.func73, Tryd.ntmps73
    go_wp2_with (go_at_call 67; refine (open_no _ _ _ _ S _ _ hr hf HS.out 20 (.inl ⟨hok, rfl⟩)).mono ?_; rintro e w1 ⟨rfl, hb1⟩; obtain ⟨bc1, bf1⟩ := bcell hb1; have hz1 := hb1.size; simp only [World.size_alloc] at hz1; have hy1 : w.heap.size + 2 < w1.heap.size := (by omega); have hx1 : w.heap.size + 1 < w1.heap.size := (by omega); have hw1 : w.heap.size < w1.heap.size := (by omega); have ho1 : 0 < w1.heap.size := (by omega))
    go_region
    go_wp2_with fail
    exact bodyPost_ret (v := .tuple #[.agg #[.slice none 0 0, .slice none 0 0, .int .i64 0, .int .i64 0, .int .i64 0], .agg #[.int .i64 (-1), .int .i64 0, .int .i64 0], .slice none 0 0, .int .i64 20]) (by simp [results, Tryd.results73, go_sem, *]) rfl ⟨by (repeat (first | (with_reducible exact Below.refl _ _) | (with_reducible refine bAlloc ?_ _) | (with_reducible refine bDrew ?_) | (with_reducible refine bGrow ?_ _ _) | (with_reducible refine bSet ?_ ?_ _; (first | exact Nat.le_refl _ | exact Nat.le_add_right _ _ | (simp; omega))) | (with_reducible refine bTrans ?_ (by assumption)))), .inl ⟨hok, rfl⟩⟩
end Go.Proofs.YtbbnpneabmldnaaDoor
