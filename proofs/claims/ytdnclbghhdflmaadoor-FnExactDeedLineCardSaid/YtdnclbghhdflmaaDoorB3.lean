/- Deeds: sizes, copies. No conditions but those that are written. -/
import Derived.Test.YtdnclbghhdflmaaDoorB1
import Derived.Test.YtdnclbghhdflmaaDoorB2
namespace Go.TL
open Go.Proofs Go.RowKit
attribute [local irreducible] wpOpsT wpT EndT Ex.seq Ex.block W

/-- What is left of a room. -/
def leftI (left : Int) (n : Int) : Int := if left - n < 0 then -1 else left - n
set_option maxHeartbeats 4000000 in
theorem laws_szDeed (k a t r p left : Int) (s : ByteArray) (hpre : s.size ≤ 140737488355328 ∧ 0 ≤ left ∧ left ≤ 1048576) : CallsT Tryd.prog [] F.laws_szDeed [.agg [.v (.int .i64 k), .v (.int .i64 a), .v (.int .i64 t), .v (.int .i64 r), .v (.int .i64 p), .v (.string s)], .v (.int .i64 left)] (.v (.int .i64 (leftI left s.size))) [] := by
  refine fnT C.laws_szDeed ?_
  refine run ?_
  refine r_ifd (fun h => ?_) (fun h => ?_)
  · rw [show leftI left s.size = -1 from if_pos h]
    refine run ?_
    exact r_end [] []
  · rw [show leftI left s.size = left - s.size from if_neg h]
    refine run ?_
    exact r_end [] []
instance (k a t r p left : Int) (s : ByteArray) : Con Tryd.prog F.laws_szDeed [.agg [.v (.int .i64 k), .v (.int .i64 a), .v (.int .i64 t), .v (.int .i64 r), .v (.int .i64 p), .v (.string s)], .v (.int .i64 left)] (s.size ≤ 140737488355328 ∧ 0 ≤ left ∧ left ≤ 1048576) (.v (.int .i64 (leftI left s.size))) [] := ⟨fun h => laws_szDeed k a t r p left s h⟩

end Go.TL
