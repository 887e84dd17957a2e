/- Deeds: the reference. No conditions. -/
import Derived.Test.YtneiifghegdfgaaDoorB0
namespace Go.TL
set_option linter.unusedSimpArgs false
open Go.Proofs Go.RowKit
attribute [local irreducible] wpOpsT wpT EndT Ex.seq Ex.block W

set_option maxHeartbeats 4000000 in
theorem spec_DeedOk (k a t r p : Int) (s : ByteArray) : CallsT Tryd.prog [] F.spec_DeedOk [.agg [.v (.int .i64 k), .v (.int .i64 a), .v (.int .i64 t), .v (.int .i64 r), .v (.int .i64 p), .v (.string s)]] (.v (.bool (decide (deedP k a t r p s)))) [] := by
  refine fnT C.spec_DeedOk ?_
  repeat' (refine run ?_; first | refine r_ifd (fun _ => ?_) (fun _ => ?_) | refine r_endb ?_ | refine r_endT ?_ | refine r_endF ?_)
  all_goals (unfold deedP; grind)
instance (k a t r p : Int) (s : ByteArray) : Con Tryd.prog F.spec_DeedOk [.agg [.v (.int .i64 k), .v (.int .i64 a), .v (.int .i64 t), .v (.int .i64 r), .v (.int .i64 p), .v (.string s)]] True (.v (.bool (decide (deedP k a t r p s)))) [] := ⟨fun _ => spec_DeedOk k a t r p s⟩

end Go.TL
