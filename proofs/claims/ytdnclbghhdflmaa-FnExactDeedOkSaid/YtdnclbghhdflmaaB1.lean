/- Deeds: the reference. No conditions. -/
import Derived.Test.YtdnclbghhdflmaaB0
namespace Go.TL
open Go.Proofs Go.RowKit

set_option maxHeartbeats 4000000 in
theorem spec_DeedOk (k a t r p : Int) (s : ByteArray) : CallsT Try.prog [] F.spec_DeedOk [.agg [.v (.int .i64 k), .v (.int .i64 a), .v (.int .i64 t), .v (.int .i64 r), .v (.int .i64 p), .v (.string s)]] (.v (.bool (decide (deedP k a t r p s)))) [] := by
  refine fnT C.spec_DeedOk ?_
  repeat' (refine run ?_; first | refine r_ifd (fun _ => ?_) (fun _ => ?_) | refine r_endb ?_ | refine r_endT ?_ | refine r_endF ?_)
  all_goals (unfold deedP; grind)

end Go.TL
