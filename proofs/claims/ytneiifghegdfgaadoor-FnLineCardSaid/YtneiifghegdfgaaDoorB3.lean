/- Deeds: sizes, copies. No conditions but those that are written. -/
import Derived.Test.YtneiifghegdfgaaDoorB1
import Derived.Test.YtneiifghegdfgaaDoorB2
namespace Go.TL
set_option linter.unusedSimpArgs false
open Go.Proofs Go.RowKit
attribute [local irreducible] wpOpsT wpT EndT Ex.seq Ex.block W

/-- What is left of a room. -/
def leftI (left : Int) (n : Int) : Int := if left - n < 0 then -1 else left - n

end Go.TL
