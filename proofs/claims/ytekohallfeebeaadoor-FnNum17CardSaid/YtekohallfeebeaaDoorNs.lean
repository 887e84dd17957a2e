/- What the structs of the type table hold: printed by a program of this work out of the translation. No conditions. -/
import Derived.Test.YtekohallfeebeaaDoorNm
import Derived.Test.YtekohallfeebeaaDoorTOpen
namespace Go.TL
open Go.Proofs Go.RowKit

theorem t13_so : stOf Tryd.prog 13 = some [(9, 0), (12, 1)] := by kernel_rfl
theorem t29_so : stOf Tryd.prog 29 = some [(3, 0), (3, 1), (3, 2), (3, 3), (3, 4), (9, 5)] := by kernel_rfl
theorem t30_so : stOf Tryd.prog 30 = some [(3, 0), (3, 1), (3, 2), (3, 3), (3, 4), (9, 5)] := by kernel_rfl
theorem t60_so : stOf Tryd.prog 60 = some [(22, 0), (3, 1), (3, 2)] := by kernel_rfl
theorem t61_so : stOf Tryd.prog 61 = some [(22, 0), (3, 1), (3, 2)] := by kernel_rfl
theorem t109_so : stOf Tryd.prog 109 = some [(9, 0)] := by kernel_rfl
theorem t110_so : stOf Tryd.prog 110 = some [(9, 0)] := by kernel_rfl
theorem t117_so : stOf Tryd.prog 117 = some [(5, 0), (5, 1)] := by kernel_rfl
theorem t118_so : stOf Tryd.prog 118 = some [(5, 0), (5, 1)] := by kernel_rfl
theorem sz_sl_uint8 : szT Tryd.prog Y.sl_uint8 = some 1 := t22_sz
theorem un_sl_uint8 : Tryd.prog.underlying Y.sl_uint8 = some (.slice 5) := t22_un
theorem so_impl_Deed : stOf Tryd.prog Y.impl_Deed = some [(3, 0), (3, 1), (3, 2), (3, 3), (3, 4), (9, 5)] := t30_so
theorem sz_impl_Deed : szT Tryd.prog Y.impl_Deed = some 6 := t30_sz
theorem by_impl_Deed : bytesT Tryd.prog Y.impl_Deed = some 56 := t30_by
theorem ag_impl_Deed : aggT Tryd.prog Y.impl_Deed = some true := t30_ag
theorem sz_sl_int : szT Tryd.prog Y.sl_int = some 1 := t43_sz
theorem un_sl_int : Tryd.prog.underlying Y.sl_int = some (.slice 3) := t43_un
theorem sz_sl_string : szT Tryd.prog Y.sl_string = some 1 := t46_sz
theorem un_sl_string : Tryd.prog.underlying Y.sl_string = some (.slice 9) := t46_un
theorem laid : laidOutB Tryd.prog = true := by kernel_rfl

end Go.TL
