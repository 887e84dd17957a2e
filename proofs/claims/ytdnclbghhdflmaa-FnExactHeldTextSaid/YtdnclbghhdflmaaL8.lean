/- The law of HeldText on trees. No conditions but those that are written. -/
import Derived.Test.YtdnclbghhdflmaaS9
import Derived.Test.YtdnclbghhdflmaaA7
import Derived.Test.YtdnclbghhdflmaaNs
import Derived.Test.YtdnclbghhdflmaaTOpen
namespace Go.TL
open Go.Proofs Go.RowKit

set_option maxHeartbeats 4000000 in
theorem laws_FnExactHeldText (k : Nat) (l : List HeldV) (r : Int) (hpre : bndHS l) : CallsT Try.prog [] F.laws_FnExactHeldText [.sl false k l.length 4 (rowT heldC l), .v (.int .i64 r)] (.v (.bool true)) [] := by
  refine fnT C.laws_FnExactHeldText ?_
  have hb := hpre
  have hc : cutI (1048576 - totHS l) = -1 ∨ 0 ≤ cutI (1048576 - totHS l) := by unfold cutI; split <;> omega
  refine run ?_
  refine r_ifd (fun h => ?_) (fun h => ?_)
  · refine run ?_
    exact r_end [] []
  have ht : totHS l ≤ 1048576 := by unfold cutI at h; split at h <;> omega
  have hbt : bndHS l ∧ totHS l ≤ 1048576 := ⟨hb, ht⟩
  refine run ?_
  exact r_end [] []
instance (k : Nat) (l : List HeldV) (r : Int) : Con Try.prog F.laws_FnExactHeldText [.sl false k l.length 4 (rowT heldC l), .v (.int .i64 r)] (bndHS l) (.v (.bool true)) [] := ⟨fun h => laws_FnExactHeldText k l r h⟩

end Go.TL
