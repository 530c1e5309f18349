/- The best ways from each depth on, in plain Lean: what they are, and how great their numbers can be. No program in sight. -/
import Derived.Test.YtbbnpneabmldnaaDoorWayBase
namespace Go.Proofs.YtbbnpneabmldnaaDoor
open Go.RowKit Go.Sort
/-- one ring at the depth d, ahead of a way -/
def Sh.wayTo (S : Sh) (x : Way) (d : Nat) : Way := ⟨x.rings + 1, x.pence + S.ringc d, d⟩
/-- a place for the next ring looked at -/
def Sh.look (S : Sh) (lt : Way → Way → Bool) (prev : Nat → Way) (cur : Way) (d : Nat) : Way :=
  if prev d = noWay ∨ S.restsB d = false then cur else if cur = noWay ∨ lt (S.wayTo (prev d) d) cur = true then S.wayTo (prev d) d else cur
/-- m places looked at from d + 1 on -/
def Sh.lookTo (S : Sh) (lt : Way → Way → Bool) (prev : Nat → Way) (d : Nat) : Nat → Way
  | 0 => prev d
  | m + 1 => S.look lt prev (S.lookTo lt prev d m) (d + 1 + m)
def Sh.moreWays (S : Sh) (lt : Way → Way → Bool) (prev : Nat → Way) (d : Nat) : Way := if d < S.nf then S.lookTo lt prev d (S.falls d - d) else prev d
def Sh.waysOf (S : Sh) (lt : Way → Way → Bool) : Nat → Nat → Way
  | 0 => fun d => if d = S.nf then ⟨0, 0, 0⟩ else noWay
  | k + 1 => S.moreWays lt (S.waysOf lt k)
structure Way.In (x : Way) (k : Int) : Prop where
  r0 : -1 ≤ x.rings
  r1 : x.rings ≤ k
  p0 : 0 ≤ x.pence
  p1 : x.pence ≤ 207 * k
  n0 : 0 ≤ x.next
  n1 : x.next ≤ 12
theorem Way.In.up {x : Way} {k l : Int} (h : x.In k) (hl : k ≤ l) : x.In l := ⟨h.r0, by have := h.r1; omega, h.p0, by have := h.p1; omega, h.n0, h.n1⟩
theorem noWay_in {k : Int} (h : 0 ≤ k) : noWay.In k := ⟨by simp [noWay], by simp [noWay]; omega, by simp [noWay], by simp [noWay]; omega, by simp [noWay], by simp [noWay]⟩
theorem Way.In.to {S : Sh} {x : Way} {k : Int} (h : x.In k) {d : Nat} (hd : d ≤ 12) (h0 : 0 ≤ S.ringc d) (h1 : S.ringc d ≤ 207) : (S.wayTo x d).In (k + 1) := by
  obtain ⟨r0, r1, p0, p1, n0, n1⟩ := h
  refine ⟨?_, ?_, ?_, ?_, ?_, ?_⟩ <;> simp only [Sh.wayTo] <;> omega
theorem look_in {S : Sh} {lt : Way → Way → Bool} {prev : Nat → Way} {cur : Way} {d : Nat} {k : Int} (hc : cur.In (k + 1)) (hp : (prev d).In k) (hd : d ≤ 12) (hr : S.restsB d = true → 0 ≤ S.ringc d ∧ S.ringc d ≤ 207) : (S.look lt prev cur d).In (k + 1) := by
  unfold Sh.look
  split
  · exact hc
  · rename_i h
    have hr' : S.restsB d = true := by
      cases e : S.restsB d
      · exact absurd (.inr e) h
      · rfl
    split
    · exact hp.to hd (hr hr').1 (hr hr').2
    · exact hc
end Go.Proofs.YtbbnpneabmldnaaDoor
