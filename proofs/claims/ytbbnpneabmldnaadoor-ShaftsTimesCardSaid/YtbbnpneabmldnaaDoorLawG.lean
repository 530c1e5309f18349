/- Walks: best (of the law), First, More (of the reference). Conditions: the way that there is not lies in its variable; small shafts. -/
import Derived.Test.YtbbnpneabmldnaaDoorLawE
import Derived.Test.YtbbnpneabmldnaaDoorPlanLaw
namespace Go.Proofs.YtbbnpneabmldnaaDoor
open Go.RowKit Go.Sort
/-- what best hands back -/
def Bests (S : Sh) (e : Ending) : Prop :=
  ∃ (m : Nat) (n : Int) (b : Bool), e = .returned (.tuple #[.int .i64 m, .int .i64 n, .bool b, .bool false]) ∧ m ≤ 12 ∧ 0 ≤ n ∧ n ≤ 4968 ∧ ((b = true ∧ S.Has ∧ S.IsFew m ∧ S.IsCheap n) ∨ (b = false ∧ ¬ S.Has ∧ m = 0 ∧ n = 0))
set_option maxHeartbeats 4000000 in
set_option maxRecDepth 100000 in
theorem lawBest_any (Ar Af : Option Addr) (cr cf : Nat) (S : Sh) (w : World) (ok : S.Ok) (hS : ShAt w Ar Af S) (hN : NoneAt w) : Calls Tryd.prog 34 #[.agg #[.slice Ar S.nr cr, .slice Af S.nf cf, .int .i64 S.deep, .int .i64 S.haul, .int .i64 S.rest]] w fun e w' => Bests S e ∧ Below w.heap.size w w' := by
  have hb0 := bAlloc (Below.refl w.heap.size w) (.cells #[.slice Ar S.nr cr, .slice Af S.nf cf, .int .i64 S.deep, .int .i64 S.haul, .int .i64 S.rest] 25)
  have HS := Lib.hid (hS.mono hb0)
  have HN := Lib.hid (hN.mono hb0)
  have HB := Lib.hid hb0
  clear hS hN hb0
  have hnr := ok.nr
  have hnf := ok.nf
  rcases out_cases ok with ⟨hh, m, n, h1, h2, h3, h4, h5, h6, h7⟩ | ⟨hh, h1, h2⟩
  · have H1 := Lib.hid h1
    have H2 := Lib.hid h2
    have H3 := Lib.hid (And.intro hh (And.intro h3 h4))
    have h5' : ((S.nf : Int) < (m : Int)) = False := by simp; omega
    have h5'' : (m : Int) ≤ (S.nf : Int) := by omega
    have hm0 : (0 : Int) ≤ (m : Int) := by omega
    clear h1 h2 h3 h4 hh
    go_enter Tryd.func34, Tryd.ntmps34
    go_wp2_with fail
    refine (Fewest_any _ _ _ _ S _ (by omega) (by omega) HS.out HN.out).mono ?_
    rintro e w1 ⟨he1, hb1⟩
    rw [H1.out] at he1
    subst he1
    obtain ⟨bc1, bf1⟩ := bcell hb1
    have hz1 := hb1.size
    simp only [World.size_alloc] at hz1
    have hy1 : w.heap.size < w1.heap.size := by omega
    go_wp2_with fail
    refine (Cheap_any _ _ _ _ S _ (by omega) (by omega) (HS.out.mono hb1) (HN.out.mono hb1)).mono ?_
    rintro e w2 ⟨he2, hb2⟩
    rw [H2.out] at he2
    subst he2
    obtain ⟨bc2, bf2⟩ := bcell hb2
    have hz2 := hb2.size
    have hy2 : w.heap.size < w2.heap.size := by omega
    go_wp2_with (go_at_call 43; refine (isKnown_any _ _).mono ?_; rintro e w3 ⟨rfl, rfl⟩)
    refine bodyPost_ret (v := .tuple #[.int .i64 m, .int .i64 n, .bool true, .bool false]) (by simp [results, Tryd.results34, go_sem]) rfl ⟨⟨m, n, true, rfl, by omega, h6, h7, .inl ⟨rfl, H3.out.1, H3.out.2.1, H3.out.2.2⟩⟩, bTrans HB.out (bTrans hb1 hb2)⟩
  · have H1 := Lib.hid h1
    have H2 := Lib.hid h2
    clear h1 h2
    go_enter Tryd.func34, Tryd.ntmps34
    go_wp2_with fail
    refine (Fewest_any _ _ _ _ S _ (by omega) (by omega) HS.out HN.out).mono ?_
    rintro e w1 ⟨he1, hb1⟩
    rw [H1.out] at he1
    subst he1
    obtain ⟨bc1, bf1⟩ := bcell hb1
    have hz1 := hb1.size
    simp only [World.size_alloc] at hz1
    have hy1 : w.heap.size < w1.heap.size := by omega
    go_wp2_with fail
    refine (Cheap_any _ _ _ _ S _ (by omega) (by omega) (HS.out.mono hb1) (HN.out.mono hb1)).mono ?_
    rintro e w2 ⟨he2, hb2⟩
    rw [H2.out] at he2
    subst he2
    obtain ⟨bc2, bf2⟩ := bcell hb2
    have hz2 := hb2.size
    have hy2 : w.heap.size < w2.heap.size := by omega
    go_wp2_with (go_at_call 43; refine (isKnown_any _ _).mono ?_; rintro e w3 ⟨rfl, rfl⟩)
    refine bodyPost_ret (v := .tuple #[.int .i64 0, .int .i64 0, .bool false, .bool false]) (by simp [results, Tryd.results34, go_sem]) rfl ⟨⟨0, 0, false, rfl, by omega, by omega, by omega, .inr ⟨rfl, hh, rfl, rfl⟩⟩, bTrans HB.out (bTrans hb1 hb2)⟩
end Go.Proofs.YtbbnpneabmldnaaDoor
