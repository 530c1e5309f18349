/- Shafts as data, and how a shaft reads in memory. No condition. -/
import Derived.Test.YtbbnpneabmldnaaDoorBase
namespace Go.Proofs.YtbbnpneabmldnaaDoor
open Go.RowKit Go.Sort

structure Rock where
  (hours pence stand seat : Int)
  deriving Inhabited
structure Sh where
  (nr : Nat) (rock : Nat → Rock) (nf : Nat) (foot : Nat → Int) (deep haul rest : Int)
def Rock.bad (r : Rock) : Bool := !inR r.hours 0 9 || !inR r.pence 0 99 || !inR r.stand 0 12 || !inR r.seat 0 99 && r.seat != -1
/-- the rock of a foot -/
def Sh.rk (S : Sh) (i : Nat) : Rock := S.rock (S.foot i).toNat
structure Rock.Ok (r : Rock) : Prop where
  h0 : 0 ≤ r.hours
  h1 : r.hours ≤ 9
  p0 : 0 ≤ r.pence
  p1 : r.pence ≤ 99
  s0 : 0 ≤ r.stand
  s1 : r.stand ≤ 12
  t0 : -1 ≤ r.seat
  t1 : r.seat ≤ 99
structure Sh.Ok (S : Sh) : Prop where
  nr : S.nr ≤ 4
  nf : S.nf ≤ 12
  rock : ∀ i, i < S.nr → (S.rock i).Ok
  f0 : ∀ i, i < S.nf → 0 ≤ S.foot i
  f1 : ∀ i, i < S.nf → S.foot i < S.nr
  d0 : 0 ≤ S.deep
  d1 : S.deep ≤ 9
  l0 : 0 ≤ S.haul
  l1 : S.haul ≤ 9
  r0 : 0 ≤ S.rest
  r1 : S.rest ≤ 9
theorem Sh.Ok.rk {S : Sh} (h : S.Ok) {i : Nat} (hi : i < S.nf) : (S.rk i).Ok := h.rock _ (by have := h.f0 i hi; have := h.f1 i hi; omega)
theorem Rock.bad_iff {r : Rock} : r.bad = false ↔ r.Ok := by
  unfold Rock.bad
  simp only [Bool.or_eq_false_iff, Bool.not_eq_false', inR_iff, Bool.and_eq_false_iff, bne_eq_false_iff_eq]
  constructor
  · rintro ⟨⟨⟨⟨a, b⟩, ⟨c, d⟩⟩, ⟨e, f⟩⟩, g⟩
    refine ⟨a, b, c, d, e, f, ?_, ?_⟩ <;> rcases g with g | g <;> omega
  · intro h
    refine ⟨⟨⟨⟨h.h0, h.h1⟩, ⟨h.p0, h.p1⟩⟩, ⟨h.s0, h.s1⟩⟩, ?_⟩
    have := h.t0; have := h.t1
    by_cases e : r.seat = -1
    · exact .inr e
    · exact .inl ⟨by omega, by omega⟩

def RocksAt (w : World) (A : Option Addr) (n : Nat) (f : Nat → Rock) : Prop :=
  n = 0 ∨ ∃ b o, A = some ⟨b, o, none⟩ ∧ b < w.heap.size ∧ ∀ i, i < n → w.cell? ⟨b, o + i * 4, none⟩ = some (.int .i64 (f i).hours) ∧
    w.cell? ⟨b, o + i * 4 + 1, none⟩ = some (.int .i64 (f i).pence) ∧ w.cell? ⟨b, o + i * 4 + 2, none⟩ = some (.int .i64 (f i).stand) ∧ w.cell? ⟨b, o + i * 4 + 3, none⟩ = some (.int .i64 (f i).seat)
theorem RocksAt.mono {w w' : World} {A : Option Addr} {n : Nat} {f : Nat → Rock} (h : RocksAt w A n f) (hb : Below w.heap.size w w') : RocksAt w' A n f := by
  rcases h with h | ⟨b, o, rfl, hlt, hc⟩
  · exact .inl h
  · exact .inr ⟨b, o, rfl, Nat.lt_of_lt_of_le hlt hb.size, fun i hi =>
      ⟨(hb.cell (p := ⟨b, _, none⟩) hlt).trans (hc i hi).1, (hb.cell (p := ⟨b, _, none⟩) hlt).trans (hc i hi).2.1, (hb.cell (p := ⟨b, _, none⟩) hlt).trans (hc i hi).2.2.1, (hb.cell (p := ⟨b, _, none⟩) hlt).trans (hc i hi).2.2.2⟩⟩
structure ShAt (w : World) (Ar Af : Option Addr) (S : Sh) : Prop where
  rocks : RocksAt w Ar S.nr S.rock
  feet : IntsAt w Af S.nf S.foot
theorem ShAt.mono {w w' : World} {Ar Af : Option Addr} {S : Sh} (h : ShAt w Ar Af S) (hb : Below w.heap.size w w') : ShAt w' Ar Af S := ⟨h.rocks.mono hb, h.feet.mono hb⟩
/-- What is read at a foot of a valid shaft. -/
theorem ShAt.foot {w : World} {Ar Af : Option Addr} {S : Sh} (h : ShAt w Ar Af S) (ok : S.Ok) {i : Nat} (hi : i < S.nf) :
    ∃ ba oa bf of_ k, Ar = some ⟨ba, oa, none⟩ ∧ Af = some ⟨bf, of_, none⟩ ∧ ba < w.heap.size ∧ bf < w.heap.size ∧ k < S.nr ∧ w.cell? ⟨bf, of_ + i, none⟩ = some (.int .i64 (k : Int)) ∧
      w.cell? ⟨ba, oa + k * 4, none⟩ = some (.int .i64 (S.rk i).hours) ∧ w.cell? ⟨ba, oa + k * 4 + 1, none⟩ = some (.int .i64 (S.rk i).pence) ∧
      w.cell? ⟨ba, oa + k * 4 + 2, none⟩ = some (.int .i64 (S.rk i).stand) ∧ w.cell? ⟨ba, oa + k * 4 + 3, none⟩ = some (.int .i64 (S.rk i).seat) := by
  obtain ⟨bf, of_, rfl, hbf, hcf⟩ := h.feet.get hi
  have h0 := ok.f0 i hi
  have h1 := ok.f1 i hi
  rcases h.rocks with h2 | ⟨ba, oa, rfl, hba, hca⟩
  · omega
  · refine ⟨ba, oa, bf, of_, (S.foot i).toNat, rfl, rfl, hba, hbf, by omega, ?_, hca _ (by omega)⟩
    rw [hcf, Int.toNat_of_nonneg h0]
end Go.Proofs.YtbbnpneabmldnaaDoor
