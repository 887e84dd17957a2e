/- Fleets: who is ahead, who leads. No conditions but those that are written. -/
import Derived.Test.YthkahdjgkcccgaaGreatF5
namespace Go.TL
set_option linter.unusedSimpArgs false
open Go.Proofs Go.RowKit
attribute [local irreducible] wpOpsT wpT EndT Ex.seq Ex.block W

/-- The best of the first i. -/
def aheadTo (l : List MemberV) : Nat → Int
  | 0 => -1
  | i + 1 => if (nth l (i : Nat)).up = true ∧ (aheadTo l i < 0 ∨ (nth l (i : Nat)).raft.commit > (nth l (aheadTo l i)).raft.commit) then (i : Int) else aheadTo l i
theorem ahead_rng (l : List MemberV) : ∀ i : Nat, -1 ≤ aheadTo l i ∧ aheadTo l i < i
  | 0 => by simp [aheadTo]
  | i + 1 => by
    have := ahead_rng l i
    unfold aheadTo
    split <;> omega
def aheadP (of : Int) (l : List MemberV) (mail : List FlightV) : Int := if fleetP of l mail then aheadTo l l.length else -1

end Go.TL
