/- What the structs of the type table hold: printed by a program of this work out of the translation. No conditions. -/
import Derived.Test.YtdnclbghhdflmaaDoorNm
import Derived.Test.YtdnclbghhdflmaaDoorTOpen
namespace Go.TL
open Go.Proofs Go.RowKit

theorem t13_so : stOf Tryd.prog 13 = some [(9, 0), (12, 1)] := by kernel_rfl
theorem t24_so : stOf Tryd.prog 24 = some [(3, 0), (3, 1), (3, 2), (3, 3), (3, 4), (9, 5)] := by kernel_rfl
theorem t25_so : stOf Tryd.prog 25 = some [(3, 0), (3, 1), (3, 2), (3, 3), (3, 4), (9, 5)] := by kernel_rfl
theorem t29_so : stOf Tryd.prog 29 = some [(3, 0), (3, 1), (3, 2), (3, 3), (3, 4), (9, 5)] := by kernel_rfl
theorem t80_so : stOf Tryd.prog 80 = some [(9, 0)] := by kernel_rfl
theorem t81_so : stOf Tryd.prog 81 = some [(9, 0)] := by kernel_rfl
theorem so_laws_Deed : stOf Tryd.prog Y.laws_Deed = some [(3, 0), (3, 1), (3, 2), (3, 3), (3, 4), (9, 5)] := t25_so
theorem sz_laws_Deed : szT Tryd.prog Y.laws_Deed = some 6 := t25_sz
theorem ag_laws_Deed : aggT Tryd.prog Y.laws_Deed = some true := t25_ag
theorem so_impl_Deed : stOf Tryd.prog Y.impl_Deed = some [(3, 0), (3, 1), (3, 2), (3, 3), (3, 4), (9, 5)] := t29_so
theorem sz_impl_Deed : szT Tryd.prog Y.impl_Deed = some 6 := t29_sz
theorem ag_impl_Deed : aggT Tryd.prog Y.impl_Deed = some true := t29_ag
theorem un_sl_uint8 : Tryd.prog.underlying Y.sl_uint8 = some (.slice 5) := t35_un
theorem un_sl_string : Tryd.prog.underlying Y.sl_string = some (.slice 9) := t38_un
theorem laid : laidOutB Tryd.prog = true := by kernel_rfl

end Go.TL
