/- What the structs of the type table hold: printed by a program of this work out of the translation. No conditions. -/
import Derived.Test.YtkecbkljfpebhaaNm
import Derived.Test.YtkecbkljfpebhaaTOpen
namespace Go.TL
set_option linter.unusedSimpArgs false
open Go.Proofs Go.RowKit

theorem t13_so : stOf Try.prog 13 = some [(9, 0), (12, 1)] := by kernel_rfl
theorem t25_so : stOf Try.prog 25 = some [(3, 0), (24, 1)] := by kernel_rfl
theorem t26_so : stOf Try.prog 26 = some [(3, 0), (24, 1)] := by kernel_rfl
theorem t38_so : stOf Try.prog 38 = some [(35, 0), (36, 1), (37, 2)] := by kernel_rfl
theorem t39_so : stOf Try.prog 39 = some [(35, 0), (36, 1), (37, 2)] := by kernel_rfl
theorem t43_so : stOf Try.prog 43 = some [(3, 0), (3, 1), (3, 2)] := by kernel_rfl
theorem t44_so : stOf Try.prog 44 = some [(3, 0), (3, 1), (3, 2)] := by kernel_rfl
theorem t51_so : stOf Try.prog 51 = some [(3, 0), (3, 1)] := by kernel_rfl
theorem t52_so : stOf Try.prog 52 = some [(3, 0), (3, 1)] := by kernel_rfl
theorem t60_so : stOf Try.prog 60 = some [(57, 0), (58, 1), (59, 2)] := by kernel_rfl
theorem t61_so : stOf Try.prog 61 = some [(57, 0), (58, 1), (59, 2)] := by kernel_rfl
theorem t74_so : stOf Try.prog 74 = some [(22, 0), (3, 1), (4, 2)] := by kernel_rfl
theorem t75_so : stOf Try.prog 75 = some [(22, 0), (3, 1), (4, 2)] := by kernel_rfl
theorem t87_so : stOf Try.prog 87 = some [(3, 0), (3, 1), (3, 2)] := by kernel_rfl
theorem t88_so : stOf Try.prog 88 = some [(3, 0), (3, 1), (3, 2)] := by kernel_rfl
theorem t89_so : stOf Try.prog 89 = some [(3, 0), (3, 1), (3, 2), (3, 3), (88, 4), (3, 7), (3, 8)] := by kernel_rfl
theorem t90_so : stOf Try.prog 90 = some [(3, 0), (3, 1), (3, 2), (3, 3), (88, 4), (3, 7), (3, 8)] := by kernel_rfl
theorem t93_so : stOf Try.prog 93 = some [(3, 0), (3, 1)] := by kernel_rfl
theorem t94_so : stOf Try.prog 94 = some [(3, 0), (3, 1)] := by kernel_rfl
theorem t97_so : stOf Try.prog 97 = some [(3, 0), (3, 1)] := by kernel_rfl
theorem t98_so : stOf Try.prog 98 = some [(3, 0), (3, 1)] := by kernel_rfl
theorem t119_so : stOf Try.prog 119 = some [(22, 0), (3, 1), (3, 2)] := by kernel_rfl
theorem t120_so : stOf Try.prog 120 = some [(22, 0), (3, 1), (3, 2)] := by kernel_rfl
theorem t132_so : stOf Try.prog 132 = some [(3, 0), (3, 1), (3, 2)] := by kernel_rfl
theorem t133_so : stOf Try.prog 133 = some [(3, 0), (3, 1), (3, 2), (3, 3), (132, 4), (3, 7), (3, 8)] := by kernel_rfl
theorem t134_so : stOf Try.prog 134 = some [(3, 0), (3, 1), (3, 2), (3, 3), (132, 4), (3, 7), (3, 8)] := by kernel_rfl
theorem t136_so : stOf Try.prog 136 = some [(3, 0), (3, 1), (3, 2)] := by kernel_rfl
theorem t138_so : stOf Try.prog 138 = some [(3, 0), (3, 1)] := by kernel_rfl
theorem sz_sl_uint8 : szT Try.prog Y.sl_uint8 = some 1 := t22_sz
theorem un_sl_uint8 : Try.prog.underlying Y.sl_uint8 = some (.slice 5) := t22_un
theorem sz_sl_impl_Shift : szT Try.prog Y.sl_impl_Shift = some 1 := t24_sz
theorem un_sl_impl_Shift : Try.prog.underlying Y.sl_impl_Shift = some (.slice 52) := t24_un
theorem so_impl_Table : stOf Try.prog Y.impl_Table = some [(3, 0), (24, 1)] := t26_so
theorem sz_impl_Table : szT Try.prog Y.impl_Table = some 2 := t26_sz
theorem by_impl_Table : bytesT Try.prog Y.impl_Table = some 32 := t26_by
theorem ag_impl_Table : aggT Try.prog Y.impl_Table = some true := t26_ag
theorem sz_sl_impl_Rule : szT Try.prog Y.sl_impl_Rule = some 1 := t35_sz
theorem un_sl_impl_Rule : Try.prog.underlying Y.sl_impl_Rule = some (.slice 90) := t35_un
theorem sz_sl_impl_Zone : szT Try.prog Y.sl_impl_Zone = some 1 := t36_sz
theorem un_sl_impl_Zone : Try.prog.underlying Y.sl_impl_Zone = some (.slice 44) := t36_un
theorem sz_sl_impl_Link : szT Try.prog Y.sl_impl_Link = some 1 := t37_sz
theorem un_sl_impl_Link : Try.prog.underlying Y.sl_impl_Link = some (.slice 94) := t37_un
theorem so_impl_Source : stOf Try.prog Y.impl_Source = some [(35, 0), (36, 1), (37, 2)] := t39_so
theorem sz_impl_Source : szT Try.prog Y.impl_Source = some 3 := t39_sz
theorem by_impl_Source : bytesT Try.prog Y.impl_Source = some 72 := t39_by
theorem ag_impl_Source : aggT Try.prog Y.impl_Source = some true := t39_ag
theorem so_impl_Zone : stOf Try.prog Y.impl_Zone = some [(3, 0), (3, 1), (3, 2)] := t44_so
theorem sz_impl_Zone : szT Try.prog Y.impl_Zone = some 3 := t44_sz
theorem by_impl_Zone : bytesT Try.prog Y.impl_Zone = some 24 := t44_by
theorem ag_impl_Zone : aggT Try.prog Y.impl_Zone = some true := t44_ag
theorem so_impl_Shift : stOf Try.prog Y.impl_Shift = some [(3, 0), (3, 1)] := t52_so
theorem sz_impl_Shift : szT Try.prog Y.impl_Shift = some 2 := t52_sz
theorem by_impl_Shift : bytesT Try.prog Y.impl_Shift = some 16 := t52_by
theorem ag_impl_Shift : aggT Try.prog Y.impl_Shift = some true := t52_ag
theorem sz_sl_laws_Rule : szT Try.prog Y.sl_laws_Rule = some 1 := t57_sz
theorem un_sl_laws_Rule : Try.prog.underlying Y.sl_laws_Rule = some (.slice 134) := t57_un
theorem sz_sl_laws_Zone : szT Try.prog Y.sl_laws_Zone = some 1 := t58_sz
theorem un_sl_laws_Zone : Try.prog.underlying Y.sl_laws_Zone = some (.slice 136) := t58_un
theorem sz_sl_laws_Link : szT Try.prog Y.sl_laws_Link = some 1 := t59_sz
theorem un_sl_laws_Link : Try.prog.underlying Y.sl_laws_Link = some (.slice 138) := t59_un
theorem so_laws_Source : stOf Try.prog Y.laws_Source = some [(57, 0), (58, 1), (59, 2)] := t61_so
theorem sz_laws_Source : szT Try.prog Y.laws_Source = some 3 := t61_sz
theorem by_laws_Source : bytesT Try.prog Y.laws_Source = some 72 := t61_by
theorem ag_laws_Source : aggT Try.prog Y.laws_Source = some true := t61_ag
theorem so_impl_reader : stOf Try.prog Y.impl_reader = some [(22, 0), (3, 1), (4, 2)] := t75_so
theorem sz_impl_reader : szT Try.prog Y.impl_reader = some 3 := t75_sz
theorem by_impl_reader : bytesT Try.prog Y.impl_reader = some 40 := t75_by
theorem ag_impl_reader : aggT Try.prog Y.impl_reader = some true := t75_ag
theorem sz_sl_int : szT Try.prog Y.sl_int = some 1 := t80_sz
theorem un_sl_int : Try.prog.underlying Y.sl_int = some (.slice 3) := t80_un
theorem so_impl_On : stOf Try.prog Y.impl_On = some [(3, 0), (3, 1), (3, 2)] := t88_so
theorem sz_impl_On : szT Try.prog Y.impl_On = some 3 := t88_sz
theorem by_impl_On : bytesT Try.prog Y.impl_On = some 24 := t88_by
theorem ag_impl_On : aggT Try.prog Y.impl_On = some true := t88_ag
theorem so_impl_Rule : stOf Try.prog Y.impl_Rule = some [(3, 0), (3, 1), (3, 2), (3, 3), (88, 4), (3, 7), (3, 8)] := t90_so
theorem sz_impl_Rule : szT Try.prog Y.impl_Rule = some 9 := t90_sz
theorem by_impl_Rule : bytesT Try.prog Y.impl_Rule = some 72 := t90_by
theorem ag_impl_Rule : aggT Try.prog Y.impl_Rule = some true := t90_ag
theorem so_impl_Link : stOf Try.prog Y.impl_Link = some [(3, 0), (3, 1)] := t94_so
theorem sz_impl_Link : szT Try.prog Y.impl_Link = some 2 := t94_sz
theorem by_impl_Link : bytesT Try.prog Y.impl_Link = some 16 := t94_by
theorem ag_impl_Link : aggT Try.prog Y.impl_Link = some true := t94_ag
theorem sz_sl_impl_setting : szT Try.prog Y.sl_impl_setting = some 1 := t95_sz
theorem un_sl_impl_setting : Try.prog.underlying Y.sl_impl_setting = some (.slice 98) := t95_un
theorem so_impl_setting : stOf Try.prog Y.impl_setting = some [(3, 0), (3, 1)] := t98_so
theorem sz_impl_setting : szT Try.prog Y.impl_setting = some 2 := t98_sz
theorem by_impl_setting : bytesT Try.prog Y.impl_setting = some 16 := t98_by
theorem ag_impl_setting : aggT Try.prog Y.impl_setting = some true := t98_ag
theorem so_laws_On : stOf Try.prog Y.laws_On = some [(3, 0), (3, 1), (3, 2)] := t132_so
theorem sz_laws_On : szT Try.prog Y.laws_On = some 3 := t132_sz
theorem by_laws_On : bytesT Try.prog Y.laws_On = some 24 := t132_by
theorem ag_laws_On : aggT Try.prog Y.laws_On = some true := t132_ag
theorem so_laws_Rule : stOf Try.prog Y.laws_Rule = some [(3, 0), (3, 1), (3, 2), (3, 3), (132, 4), (3, 7), (3, 8)] := t134_so
theorem sz_laws_Rule : szT Try.prog Y.laws_Rule = some 9 := t134_sz
theorem by_laws_Rule : bytesT Try.prog Y.laws_Rule = some 72 := t134_by
theorem ag_laws_Rule : aggT Try.prog Y.laws_Rule = some true := t134_ag
theorem so_laws_Zone : stOf Try.prog Y.laws_Zone = some [(3, 0), (3, 1), (3, 2)] := t136_so
theorem sz_laws_Zone : szT Try.prog Y.laws_Zone = some 3 := t136_sz
theorem by_laws_Zone : bytesT Try.prog Y.laws_Zone = some 24 := t136_by
theorem ag_laws_Zone : aggT Try.prog Y.laws_Zone = some true := t136_ag
theorem so_laws_Link : stOf Try.prog Y.laws_Link = some [(3, 0), (3, 1)] := t138_so
theorem sz_laws_Link : szT Try.prog Y.laws_Link = some 2 := t138_sz
theorem by_laws_Link : bytesT Try.prog Y.laws_Link = some 16 := t138_by
theorem ag_laws_Link : aggT Try.prog Y.laws_Link = some true := t138_ag
theorem laid : laidOutB Try.prog = true := by kernel_rfl

end Go.TL
