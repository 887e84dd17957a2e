/- New rolls. No conditions but those that are written. -/
import Derived.Test.YthkahdjgkcccgaaF2
namespace Go.TL
set_option linter.unusedSimpArgs false
open Go.Proofs Go.RowKit
attribute [local irreducible] wpOpsT wpT EndT Ex.seq Ex.block W

set_option maxHeartbeats 4000000 in
theorem spec_RollNew (of : Int) (hpre : ofP of) : CallsT Try.prog [] F.spec_RollNew [.v (.int .i64 of)] (.agg [.v (.int .i64 of), .sl false 0 0 5 [], .v (.int .i64 0), .sl false 0 0 1 []]) [] := by
  refine fnT C.spec_RollNew ?_
  unfold ofP at hpre
  refine run ?_
  exact r_end [] []
instance (of : Int) : Con Try.prog F.spec_RollNew [.v (.int .i64 of)] (ofP of) (.agg [.v (.int .i64 of), .sl false 0 0 5 [], .v (.int .i64 0), .sl false 0 0 1 []]) [] := ⟨fun h => spec_RollNew of h⟩

set_option maxHeartbeats 4000000 in
theorem impl_RollNew (of : Int) (hpre : ofP of) : CallsT Try.prog [] F.impl_RollNew [.v (.int .i64 of)] (.agg [.v (.int .i64 of), .sl false 0 0 5 [], .v (.int .i64 0), .sl false 0 0 1 []]) [] := by
  refine fnT C.impl_RollNew ?_
  unfold ofP at hpre
  refine run ?_
  exact r_end [] []
instance (of : Int) : Con Try.prog F.impl_RollNew [.v (.int .i64 of)] (ofP of) (.agg [.v (.int .i64 of), .sl false 0 0 5 [], .v (.int .i64 0), .sl false 0 0 1 []]) [] := ⟨fun h => impl_RollNew of h⟩

end Go.TL
