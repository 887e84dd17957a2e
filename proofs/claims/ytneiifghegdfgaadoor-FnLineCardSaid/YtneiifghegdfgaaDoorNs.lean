/- What the structs of the type table hold: printed by a program of this work out of the translation. No conditions. -/
import Derived.Test.YtneiifghegdfgaaDoorNm
import Derived.Test.YtneiifghegdfgaaDoorTOpen
namespace Go.TL
set_option linter.unusedSimpArgs false
open Go.Proofs Go.RowKit

theorem t13_so : stOf Tryd.prog 13 = some [(9, 0), (12, 1)] := by kernel_rfl
theorem t22_so : stOf Tryd.prog 22 = some [(3, 0), (3, 1), (3, 2), (3, 3), (3, 4), (9, 5)] := by kernel_rfl
theorem t23_so : stOf Tryd.prog 23 = some [(3, 0), (3, 1), (3, 2), (3, 3), (3, 4), (9, 5)] := by kernel_rfl
theorem t60_so : stOf Tryd.prog 60 = some [(28, 0), (3, 1), (3, 2)] := by kernel_rfl
theorem t61_so : stOf Tryd.prog 61 = some [(28, 0), (3, 1), (3, 2)] := by kernel_rfl
theorem t86_so : stOf Tryd.prog 86 = some [(5, 0), (5, 1)] := by kernel_rfl
theorem t87_so : stOf Tryd.prog 87 = some [(5, 0), (5, 1)] := by kernel_rfl
theorem t115_so : stOf Tryd.prog 115 = some [(9, 0)] := by kernel_rfl
theorem t116_so : stOf Tryd.prog 116 = some [(9, 0)] := by kernel_rfl
theorem so_impl_Deed : stOf Tryd.prog Y.impl_Deed = some [(3, 0), (3, 1), (3, 2), (3, 3), (3, 4), (9, 5)] := t23_so
theorem sz_impl_Deed : szT Tryd.prog Y.impl_Deed = some 6 := t23_sz
theorem by_impl_Deed : bytesT Tryd.prog Y.impl_Deed = some 56 := t23_by
theorem ag_impl_Deed : aggT Tryd.prog Y.impl_Deed = some true := t23_ag
theorem sz_sl_uint8 : szT Tryd.prog Y.sl_uint8 = some 1 := t28_sz
theorem un_sl_uint8 : Tryd.prog.underlying Y.sl_uint8 = some (.slice 5) := t28_un
theorem sz_sl_string : szT Tryd.prog Y.sl_string = some 1 := t35_sz
theorem un_sl_string : Tryd.prog.underlying Y.sl_string = some (.slice 9) := t35_un
theorem sz_sl_int : szT Tryd.prog Y.sl_int = some 1 := t70_sz
theorem un_sl_int : Tryd.prog.underlying Y.sl_int = some (.slice 3) := t70_un
theorem laid : laidOutB Tryd.prog = true := by kernel_rfl

end Go.TL
