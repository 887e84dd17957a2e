/- Numbers and texts: the reference. Sizes of parts. No conditions but those that are written. -/
import Derived.Test.YtneiifghegdfgaaDoorA1
namespace Go.TL
set_option linter.unusedSimpArgs false
open Go.Proofs Go.RowKit
attribute [local irreducible] wpOpsT wpT EndT Ex.seq Ex.block W

/-- How many parts a size has. -/
def partsN (n : Int) : Int := if 0 ≤ n ∧ n ≤ 1000 then (n + 15) / 16 else -1
theorem partsN_b (n : Int) : -1 ≤ partsN n ∧ partsN n ≤ 63 := by unfold partsN; split <;> omega

end Go.TL
