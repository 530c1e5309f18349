/- Walks: shafts.Check and steeningref02.Check: 20 unless the shaft is valid. No condition but that lengths are Go's. -/
import Derived.Test.YtbbnpneabmldnaaDoorWalkA
namespace Go.Proofs.YtbbnpneabmldnaaDoor
open Go.RowKit Go.Sort

open Classical in
noncomputable def Sh.err (S : Sh) : Int := if S.Ok then 0 else 20
theorem Sh.err_ok {S : Sh} (h : S.Ok) : S.err = 0 := if_pos h
theorem Sh.err_bad {S : Sh} (h : ¬ S.Ok) : S.err = 20 := if_neg h
theorem foot_in {S : Sh} {i : Nat} : inR (S.foot i) 0 ((S.nr : Int) - 1) = true ↔ 0 ≤ S.foot i ∧ S.foot i < S.nr := by rw [inR_iff]; omega
/-- the tests of shafts.Check, in the order of the text -/
theorem check_cases (S : Sh) : ((4 : Int) < (S.nr : Int) ∧ S.err = 20) ∨ (¬ (4 : Int) < (S.nr : Int) ∧ anyB (fun i => (S.rock i).bad) S.nr = true ∧ S.err = 20) ∨
    (¬ (4 : Int) < (S.nr : Int) ∧ anyB (fun i => (S.rock i).bad) S.nr = false ∧ (12 : Int) < (S.nf : Int) ∧ S.err = 20) ∨
    (¬ (4 : Int) < (S.nr : Int) ∧ anyB (fun i => (S.rock i).bad) S.nr = false ∧ ¬ (12 : Int) < (S.nf : Int) ∧ anyB (fun i => !inR (S.foot i) 0 (S.nr - 1)) S.nf = true ∧ S.err = 20) ∨
    (¬ (4 : Int) < (S.nr : Int) ∧ anyB (fun i => (S.rock i).bad) S.nr = false ∧ ¬ (12 : Int) < (S.nf : Int) ∧ anyB (fun i => !inR (S.foot i) 0 (S.nr - 1)) S.nf = false ∧ inR S.deep 0 9 = false ∧ S.err = 20) ∨
    (¬ (4 : Int) < (S.nr : Int) ∧ anyB (fun i => (S.rock i).bad) S.nr = false ∧ ¬ (12 : Int) < (S.nf : Int) ∧ anyB (fun i => !inR (S.foot i) 0 (S.nr - 1)) S.nf = false ∧ inR S.deep 0 9 = true ∧ inR S.haul 0 9 = false ∧ S.err = 20) ∨
    (¬ (4 : Int) < (S.nr : Int) ∧ anyB (fun i => (S.rock i).bad) S.nr = false ∧ ¬ (12 : Int) < (S.nf : Int) ∧ anyB (fun i => !inR (S.foot i) 0 (S.nr - 1)) S.nf = false ∧ inR S.deep 0 9 = true ∧ inR S.haul 0 9 = true ∧ inR S.rest 0 9 = false ∧ S.err = 20) ∨
    (¬ (4 : Int) < (S.nr : Int) ∧ anyB (fun i => (S.rock i).bad) S.nr = false ∧ ¬ (12 : Int) < (S.nf : Int) ∧ anyB (fun i => !inR (S.foot i) 0 (S.nr - 1)) S.nf = false ∧ inR S.deep 0 9 = true ∧ inR S.haul 0 9 = true ∧ inR S.rest 0 9 = true ∧ S.err = 0) := by
  by_cases h1 : (4 : Int) < (S.nr : Int)
  · exact .inl ⟨h1, Sh.err_bad fun h => by have := h.nr; omega⟩
  refine .inr ?_
  cases h2 : anyB (fun i => (S.rock i).bad) S.nr
  case true =>
    obtain ⟨i, hi, hb⟩ := anyB_true.1 h2
    exact .inl ⟨h1, rfl, Sh.err_bad fun h => by have := Rock.bad_iff.2 (h.rock i hi); rw [hb] at this; cases this⟩
  refine .inr ?_
  by_cases h3 : (12 : Int) < (S.nf : Int)
  · exact .inl ⟨h1, rfl, h3, Sh.err_bad fun h => by have := h.nf; omega⟩
  refine .inr ?_
  cases h4 : anyB (fun i => !inR (S.foot i) 0 (S.nr - 1)) S.nf
  case true =>
    obtain ⟨i, hi, hb⟩ := anyB_true.1 h4
    exact .inl ⟨h1, rfl, h3, rfl, Sh.err_bad fun h => by simp only [foot_in.2 ⟨h.f0 i hi, h.f1 i hi⟩] at hb; cases hb⟩
  refine .inr ?_
  cases h5 : inR S.deep 0 9
  · exact .inl ⟨h1, rfl, h3, rfl, rfl, Sh.err_bad fun h => by rw [inR_t ⟨h.d0, h.d1⟩] at h5; cases h5⟩
  refine .inr ?_
  cases h6 : inR S.haul 0 9
  · exact .inl ⟨h1, rfl, h3, rfl, rfl, rfl, Sh.err_bad fun h => by rw [inR_t ⟨h.l0, h.l1⟩] at h6; cases h6⟩
  refine .inr ?_
  cases h7 : inR S.rest 0 9
  · exact .inl ⟨h1, rfl, h3, rfl, rfl, rfl, rfl, Sh.err_bad fun h => by rw [inR_t ⟨h.r0, h.r1⟩] at h7; cases h7⟩
  refine .inr ⟨h1, rfl, h3, rfl, rfl, rfl, rfl, Sh.err_ok ⟨by omega, by omega, fun i hi => Rock.bad_iff.1 (anyB_false.1 h2 i hi), fun i hi => ?_, fun i hi => ?_, (inR_iff.1 h5).1, (inR_iff.1 h5).2, (inR_iff.1 h6).1, (inR_iff.1 h6).2, (inR_iff.1 h7).1, (inR_iff.1 h7).2⟩⟩
  · have := anyB_false.1 h4 i hi; simp only [Bool.not_eq_false'] at this; exact (foot_in.1 this).1
  · have := anyB_false.1 h4 i hi; simp only [Bool.not_eq_false'] at this; exact (foot_in.1 this).2

set_option maxHeartbeats 1000000 in
theorem check_any (Ar Af : Option Addr) (cr cf : Nat) (S : Sh) (w : World) (hr : S.nr ≤ 9223372036854775807) (hf : S.nf ≤ 9223372036854775807) (hS : ShAt w Ar Af S) :
    Calls Tryd.prog 18 #[.agg #[.slice Ar S.nr cr, .slice Af S.nf cf, .int .i64 S.deep, .int .i64 S.haul, .int .i64 S.rest]] w fun e w' => e = .returned (.int .i64 S.err) ∧ Below w.heap.size w w' := by
  have hb0 := bAlloc (Below.refl w.heap.size w) (.cells #[.slice Ar S.nr cr, .slice Af S.nf cf, .int .i64 S.deep, .int .i64 S.haul, .int .i64 S.rest] 25)
  have HS := Lib.hid (hS.mono hb0)
  have HB := Lib.hid hb0
  clear hS hb0
  rcases check_cases S with ⟨h1, he⟩ | ⟨h1, h2, he⟩ | ⟨h1, h2, h3, he⟩ | ⟨h1, h2, h3, h4, he⟩ | ⟨h1, h2, h3, h4, h5, he⟩ | ⟨h1, h2, h3, h4, h5, h6, he⟩ | ⟨h1, h2, h3, h4, h5, h6, h7, he⟩ | ⟨h1, h2, h3, h4, h5, h6, h7, he⟩
  all_goals
    have HE := Lib.hid he
    clear he
    go_enter Tryd.func18, Tryd.ntmps18
    go_wp2_with (first | (go_at_call 64; refine (containsRocks _ _ _ S.rock _ hr HS.out.rocks).mono ?_; rintro e w1 ⟨rfl, hb1⟩; obtain ⟨bc1, bf1⟩ := bcell hb1; have hz1 := hb1.size; simp only [World.size_alloc] at hz1; have hy1 : w.heap.size < w1.heap.size := hz1; have HI := Lib.hid (HS.out.feet.mono hb1)) | (go_at_call 65; refine (containsInts _ _ _ S.foot ⟨w.heap.size, 0, none⟩ Ar S.nr cr _ hf hr HI.out (show w.heap.size < w1.heap.size from by omega) (by rw [bc1 _ _ (by simp)]; simp [go_sem])).mono ?_; rintro e w2 ⟨rfl, hb2⟩; obtain ⟨bc2, bf2⟩ := bcell hb2; have hz2 := hb2.size; have hy2 : w.heap.size < w2.heap.size := by omega) | (go_at_call 62; refine (within_any _ _ _ _).mono ?_; rintro e w' ⟨rfl, rfl⟩))
    go_ret
    refine ⟨ret_int HE.out.symm, ?_⟩
    first
      | exact HB.out
      | exact bTrans HB.out (by assumption)
      | exact bTrans (bTrans HB.out hb1) (by assumption)
end Go.Proofs.YtbbnpneabmldnaaDoor
