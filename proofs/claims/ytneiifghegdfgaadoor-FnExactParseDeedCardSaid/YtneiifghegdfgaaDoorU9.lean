/- The law of ParseDeed on trees. No conditions but those that are written. -/
import Derived.Test.YtneiifghegdfgaaDoorU8
import Derived.Test.YtneiifghegdfgaaDoorTOpen
namespace Go.TL
set_option linter.unusedSimpArgs false
open Go.Proofs Go.RowKit

set_option maxHeartbeats 4000000 in
theorem laws_eqDeed (k a t r p : Int) (x : ByteArray) : CallsT Tryd.prog [] F.laws_eqDeed [.agg [.v (.int .i64 k), .v (.int .i64 a), .v (.int .i64 t), .v (.int .i64 r), .v (.int .i64 p), .v (.string x)], .agg [.v (.int .i64 k), .v (.int .i64 a), .v (.int .i64 t), .v (.int .i64 r), .v (.int .i64 p), .v (.string x)]] (.v (.bool true)) [] := by
  refine fnT C.laws_eqDeed ?_
  refine run ?_
  exact r_end [] []
instance (k a t r p : Int) (x : ByteArray) : Con Tryd.prog F.laws_eqDeed [.agg [.v (.int .i64 k), .v (.int .i64 a), .v (.int .i64 t), .v (.int .i64 r), .v (.int .i64 p), .v (.string x)], .agg [.v (.int .i64 k), .v (.int .i64 a), .v (.int .i64 t), .v (.int .i64 r), .v (.int .i64 p), .v (.string x)]] True (.v (.bool true)) [] := ⟨fun _ => laws_eqDeed k a t r p x⟩

attribute [local go_sem] deedC
set_option maxHeartbeats 4000000 in
theorem laws_FnExactParseDeed (s : ByteArray) (hpre : s.size ≤ 140737488355328) : CallsT Tryd.prog [] F.laws_FnExactParseDeed [.v (.string s)] (.v (.bool true)) [] := by
  refine fnT C.laws_FnExactParseDeed ?_
  refine run ?_
  refine r_ifd (fun h => ?_) (fun h => ?_)
  · refine run ?_
    exact r_end [] []
  refine run ?_
  exact r_end [] []
instance (s : ByteArray) : Con Tryd.prog F.laws_FnExactParseDeed [.v (.string s)] (s.size ≤ 140737488355328) (.v (.bool true)) [] := ⟨fun h => laws_FnExactParseDeed s h⟩

end Go.TL
