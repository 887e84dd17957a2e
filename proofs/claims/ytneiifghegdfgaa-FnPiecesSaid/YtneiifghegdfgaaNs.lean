/- What the structs of the type table hold: printed by a program of this work out of the translation. No conditions. -/
import Derived.Test.YtneiifghegdfgaaNm
import Derived.Test.YtneiifghegdfgaaTOpen
namespace Go.TL
set_option linter.unusedSimpArgs false
open Go.Proofs Go.RowKit

theorem t13_so : stOf Try.prog 13 = some [(9, 0), (12, 1)] := by kernel_rfl
theorem t34_so : stOf Try.prog 34 = some [(3, 0), (33, 1)] := by kernel_rfl
theorem t35_so : stOf Try.prog 35 = some [(3, 0), (33, 1)] := by kernel_rfl
theorem t47_so : stOf Try.prog 47 = some [(44, 0), (45, 1), (46, 2)] := by kernel_rfl
theorem t48_so : stOf Try.prog 48 = some [(44, 0), (45, 1), (46, 2)] := by kernel_rfl
theorem t52_so : stOf Try.prog 52 = some [(3, 0), (3, 1), (3, 2)] := by kernel_rfl
theorem t53_so : stOf Try.prog 53 = some [(3, 0), (3, 1), (3, 2)] := by kernel_rfl
theorem t60_so : stOf Try.prog 60 = some [(3, 0), (3, 1)] := by kernel_rfl
theorem t61_so : stOf Try.prog 61 = some [(3, 0), (3, 1)] := by kernel_rfl
theorem t69_so : stOf Try.prog 69 = some [(3, 0), (9, 1), (68, 2)] := by kernel_rfl
theorem t70_so : stOf Try.prog 70 = some [(3, 0), (9, 1), (68, 2)] := by kernel_rfl
theorem t71_so : stOf Try.prog 71 = some [(3, 0), (70, 1)] := by kernel_rfl
theorem t72_so : stOf Try.prog 72 = some [(3, 0), (70, 1)] := by kernel_rfl
theorem t75_so : stOf Try.prog 75 = some [(3, 0), (74, 1)] := by kernel_rfl
theorem t76_so : stOf Try.prog 76 = some [(3, 0), (74, 1)] := by kernel_rfl
theorem t83_so : stOf Try.prog 83 = some [(80, 0), (81, 1), (82, 2)] := by kernel_rfl
theorem t84_so : stOf Try.prog 84 = some [(80, 0), (81, 1), (82, 2)] := by kernel_rfl
theorem t92_so : stOf Try.prog 92 = some [(3, 0), (91, 1)] := by kernel_rfl
theorem t93_so : stOf Try.prog 93 = some [(3, 0), (91, 1)] := by kernel_rfl
theorem t100_so : stOf Try.prog 100 = some [(3, 0), (9, 1), (68, 2)] := by kernel_rfl
theorem t101_so : stOf Try.prog 101 = some [(3, 0), (100, 1)] := by kernel_rfl
theorem t102_so : stOf Try.prog 102 = some [(3, 0), (100, 1)] := by kernel_rfl
theorem t120_so : stOf Try.prog 120 = some [(31, 0), (3, 1), (4, 2)] := by kernel_rfl
theorem t121_so : stOf Try.prog 121 = some [(31, 0), (3, 1), (4, 2)] := by kernel_rfl
theorem t133_so : stOf Try.prog 133 = some [(3, 0), (3, 1), (3, 2)] := by kernel_rfl
theorem t134_so : stOf Try.prog 134 = some [(3, 0), (3, 1), (3, 2)] := by kernel_rfl
theorem t135_so : stOf Try.prog 135 = some [(3, 0), (3, 1), (3, 2), (3, 3), (134, 4), (3, 7), (3, 8)] := by kernel_rfl
theorem t136_so : stOf Try.prog 136 = some [(3, 0), (3, 1), (3, 2), (3, 3), (134, 4), (3, 7), (3, 8)] := by kernel_rfl
theorem t139_so : stOf Try.prog 139 = some [(3, 0), (3, 1)] := by kernel_rfl
theorem t140_so : stOf Try.prog 140 = some [(3, 0), (3, 1)] := by kernel_rfl
theorem t143_so : stOf Try.prog 143 = some [(3, 0), (3, 1)] := by kernel_rfl
theorem t144_so : stOf Try.prog 144 = some [(3, 0), (3, 1)] := by kernel_rfl
theorem t181_so : stOf Try.prog 181 = some [(31, 0), (3, 1), (3, 2)] := by kernel_rfl
theorem t182_so : stOf Try.prog 182 = some [(31, 0), (3, 1), (3, 2)] := by kernel_rfl
theorem t198_so : stOf Try.prog 198 = some [(3, 0), (9, 1), (9, 2)] := by kernel_rfl
theorem t199_so : stOf Try.prog 199 = some [(3, 0), (9, 1), (9, 2)] := by kernel_rfl
theorem t208_so : stOf Try.prog 208 = some [(3, 0), (3, 1), (3, 2)] := by kernel_rfl
theorem t209_so : stOf Try.prog 209 = some [(3, 0), (3, 1), (3, 2), (3, 3), (208, 4), (3, 7), (3, 8)] := by kernel_rfl
theorem t210_so : stOf Try.prog 210 = some [(3, 0), (3, 1), (3, 2), (3, 3), (208, 4), (3, 7), (3, 8)] := by kernel_rfl
theorem t212_so : stOf Try.prog 212 = some [(3, 0), (3, 1), (3, 2)] := by kernel_rfl
theorem t214_so : stOf Try.prog 214 = some [(3, 0), (3, 1)] := by kernel_rfl
theorem t220_so : stOf Try.prog 220 = some [(3, 0), (9, 1), (9, 2)] := by kernel_rfl
theorem sz_sl_laws_Held : szT Try.prog Y.sl_laws_Held = some 1 := t22_sz
theorem un_sl_laws_Held : Try.prog.underlying Y.sl_laws_Held = some (.slice 102) := t22_un
theorem sz_sl_impl_Held : szT Try.prog Y.sl_impl_Held = some 1 := t24_sz
theorem un_sl_impl_Held : Try.prog.underlying Y.sl_impl_Held = some (.slice 72) := t24_un
theorem sz_sl_uint8 : szT Try.prog Y.sl_uint8 = some 1 := t31_sz
theorem un_sl_uint8 : Try.prog.underlying Y.sl_uint8 = some (.slice 5) := t31_un
theorem sz_sl_impl_Shift : szT Try.prog Y.sl_impl_Shift = some 1 := t33_sz
theorem un_sl_impl_Shift : Try.prog.underlying Y.sl_impl_Shift = some (.slice 61) := t33_un
theorem so_impl_Table : stOf Try.prog Y.impl_Table = some [(3, 0), (33, 1)] := t35_so
theorem sz_impl_Table : szT Try.prog Y.impl_Table = some 2 := t35_sz
theorem by_impl_Table : bytesT Try.prog Y.impl_Table = some 32 := t35_by
theorem ag_impl_Table : aggT Try.prog Y.impl_Table = some true := t35_ag
theorem sz_sl_impl_Rule : szT Try.prog Y.sl_impl_Rule = some 1 := t44_sz
theorem un_sl_impl_Rule : Try.prog.underlying Y.sl_impl_Rule = some (.slice 136) := t44_un
theorem sz_sl_impl_Zone : szT Try.prog Y.sl_impl_Zone = some 1 := t45_sz
theorem un_sl_impl_Zone : Try.prog.underlying Y.sl_impl_Zone = some (.slice 53) := t45_un
theorem sz_sl_impl_Link : szT Try.prog Y.sl_impl_Link = some 1 := t46_sz
theorem un_sl_impl_Link : Try.prog.underlying Y.sl_impl_Link = some (.slice 140) := t46_un
theorem so_impl_Source : stOf Try.prog Y.impl_Source = some [(44, 0), (45, 1), (46, 2)] := t48_so
theorem sz_impl_Source : szT Try.prog Y.impl_Source = some 3 := t48_sz
theorem by_impl_Source : bytesT Try.prog Y.impl_Source = some 72 := t48_by
theorem ag_impl_Source : aggT Try.prog Y.impl_Source = some true := t48_ag
theorem so_impl_Zone : stOf Try.prog Y.impl_Zone = some [(3, 0), (3, 1), (3, 2)] := t53_so
theorem sz_impl_Zone : szT Try.prog Y.impl_Zone = some 3 := t53_sz
theorem by_impl_Zone : bytesT Try.prog Y.impl_Zone = some 24 := t53_by
theorem ag_impl_Zone : aggT Try.prog Y.impl_Zone = some true := t53_ag
theorem so_impl_Shift : stOf Try.prog Y.impl_Shift = some [(3, 0), (3, 1)] := t61_so
theorem sz_impl_Shift : szT Try.prog Y.impl_Shift = some 2 := t61_sz
theorem by_impl_Shift : bytesT Try.prog Y.impl_Shift = some 16 := t61_by
theorem ag_impl_Shift : aggT Try.prog Y.impl_Shift = some true := t61_ag
theorem sz_sl_string : szT Try.prog Y.sl_string = some 1 := t68_sz
theorem un_sl_string : Try.prog.underlying Y.sl_string = some (.slice 9) := t68_un
theorem so_impl_Parcel : stOf Try.prog Y.impl_Parcel = some [(3, 0), (9, 1), (68, 2)] := t70_so
theorem sz_impl_Parcel : szT Try.prog Y.impl_Parcel = some 3 := t70_sz
theorem by_impl_Parcel : bytesT Try.prog Y.impl_Parcel = some 48 := t70_by
theorem ag_impl_Parcel : aggT Try.prog Y.impl_Parcel = some true := t70_ag
theorem so_impl_Held : stOf Try.prog Y.impl_Held = some [(3, 0), (70, 1)] := t72_so
theorem sz_impl_Held : szT Try.prog Y.impl_Held = some 4 := t72_sz
theorem by_impl_Held : bytesT Try.prog Y.impl_Held = some 56 := t72_by
theorem ag_impl_Held : aggT Try.prog Y.impl_Held = some true := t72_ag
theorem sz_sl_impl_File : szT Try.prog Y.sl_impl_File = some 1 := t74_sz
theorem un_sl_impl_File : Try.prog.underlying Y.sl_impl_File = some (.slice 199) := t74_un
theorem so_impl_Disk : stOf Try.prog Y.impl_Disk = some [(3, 0), (74, 1)] := t76_so
theorem sz_impl_Disk : szT Try.prog Y.impl_Disk = some 2 := t76_sz
theorem by_impl_Disk : bytesT Try.prog Y.impl_Disk = some 32 := t76_by
theorem ag_impl_Disk : aggT Try.prog Y.impl_Disk = some true := t76_ag
theorem sz_sl_laws_Rule : szT Try.prog Y.sl_laws_Rule = some 1 := t80_sz
theorem un_sl_laws_Rule : Try.prog.underlying Y.sl_laws_Rule = some (.slice 210) := t80_un
theorem sz_sl_laws_Zone : szT Try.prog Y.sl_laws_Zone = some 1 := t81_sz
theorem un_sl_laws_Zone : Try.prog.underlying Y.sl_laws_Zone = some (.slice 212) := t81_un
theorem sz_sl_laws_Link : szT Try.prog Y.sl_laws_Link = some 1 := t82_sz
theorem un_sl_laws_Link : Try.prog.underlying Y.sl_laws_Link = some (.slice 214) := t82_un
theorem so_laws_Source : stOf Try.prog Y.laws_Source = some [(80, 0), (81, 1), (82, 2)] := t84_so
theorem sz_laws_Source : szT Try.prog Y.laws_Source = some 3 := t84_sz
theorem by_laws_Source : bytesT Try.prog Y.laws_Source = some 72 := t84_by
theorem ag_laws_Source : aggT Try.prog Y.laws_Source = some true := t84_ag
theorem sz_sl_laws_File : szT Try.prog Y.sl_laws_File = some 1 := t91_sz
theorem un_sl_laws_File : Try.prog.underlying Y.sl_laws_File = some (.slice 220) := t91_un
theorem so_laws_Disk : stOf Try.prog Y.laws_Disk = some [(3, 0), (91, 1)] := t93_so
theorem sz_laws_Disk : szT Try.prog Y.laws_Disk = some 2 := t93_sz
theorem by_laws_Disk : bytesT Try.prog Y.laws_Disk = some 32 := t93_by
theorem ag_laws_Disk : aggT Try.prog Y.laws_Disk = some true := t93_ag
theorem so_laws_Parcel : stOf Try.prog Y.laws_Parcel = some [(3, 0), (9, 1), (68, 2)] := t100_so
theorem sz_laws_Parcel : szT Try.prog Y.laws_Parcel = some 3 := t100_sz
theorem by_laws_Parcel : bytesT Try.prog Y.laws_Parcel = some 48 := t100_by
theorem ag_laws_Parcel : aggT Try.prog Y.laws_Parcel = some true := t100_ag
theorem so_laws_Held : stOf Try.prog Y.laws_Held = some [(3, 0), (100, 1)] := t102_so
theorem sz_laws_Held : szT Try.prog Y.laws_Held = some 4 := t102_sz
theorem by_laws_Held : bytesT Try.prog Y.laws_Held = some 56 := t102_by
theorem ag_laws_Held : aggT Try.prog Y.laws_Held = some true := t102_ag
theorem so_impl_reader : stOf Try.prog Y.impl_reader = some [(31, 0), (3, 1), (4, 2)] := t121_so
theorem sz_impl_reader : szT Try.prog Y.impl_reader = some 3 := t121_sz
theorem by_impl_reader : bytesT Try.prog Y.impl_reader = some 40 := t121_by
theorem ag_impl_reader : aggT Try.prog Y.impl_reader = some true := t121_ag
theorem sz_sl_int : szT Try.prog Y.sl_int = some 1 := t126_sz
theorem un_sl_int : Try.prog.underlying Y.sl_int = some (.slice 3) := t126_un
theorem so_impl_On : stOf Try.prog Y.impl_On = some [(3, 0), (3, 1), (3, 2)] := t134_so
theorem sz_impl_On : szT Try.prog Y.impl_On = some 3 := t134_sz
theorem by_impl_On : bytesT Try.prog Y.impl_On = some 24 := t134_by
theorem ag_impl_On : aggT Try.prog Y.impl_On = some true := t134_ag
theorem so_impl_Rule : stOf Try.prog Y.impl_Rule = some [(3, 0), (3, 1), (3, 2), (3, 3), (134, 4), (3, 7), (3, 8)] := t136_so
theorem sz_impl_Rule : szT Try.prog Y.impl_Rule = some 9 := t136_sz
theorem by_impl_Rule : bytesT Try.prog Y.impl_Rule = some 72 := t136_by
theorem ag_impl_Rule : aggT Try.prog Y.impl_Rule = some true := t136_ag
theorem so_impl_Link : stOf Try.prog Y.impl_Link = some [(3, 0), (3, 1)] := t140_so
theorem sz_impl_Link : szT Try.prog Y.impl_Link = some 2 := t140_sz
theorem by_impl_Link : bytesT Try.prog Y.impl_Link = some 16 := t140_by
theorem ag_impl_Link : aggT Try.prog Y.impl_Link = some true := t140_ag
theorem sz_sl_impl_setting : szT Try.prog Y.sl_impl_setting = some 1 := t141_sz
theorem un_sl_impl_setting : Try.prog.underlying Y.sl_impl_setting = some (.slice 144) := t141_un
theorem so_impl_setting : stOf Try.prog Y.impl_setting = some [(3, 0), (3, 1)] := t144_so
theorem sz_impl_setting : szT Try.prog Y.impl_setting = some 2 := t144_sz
theorem by_impl_setting : bytesT Try.prog Y.impl_setting = some 16 := t144_by
theorem ag_impl_setting : aggT Try.prog Y.impl_setting = some true := t144_ag
theorem so_impl_File : stOf Try.prog Y.impl_File = some [(3, 0), (9, 1), (9, 2)] := t199_so
theorem sz_impl_File : szT Try.prog Y.impl_File = some 3 := t199_sz
theorem by_impl_File : bytesT Try.prog Y.impl_File = some 40 := t199_by
theorem ag_impl_File : aggT Try.prog Y.impl_File = some true := t199_ag
theorem so_laws_On : stOf Try.prog Y.laws_On = some [(3, 0), (3, 1), (3, 2)] := t208_so
theorem sz_laws_On : szT Try.prog Y.laws_On = some 3 := t208_sz
theorem by_laws_On : bytesT Try.prog Y.laws_On = some 24 := t208_by
theorem ag_laws_On : aggT Try.prog Y.laws_On = some true := t208_ag
theorem so_laws_Rule : stOf Try.prog Y.laws_Rule = some [(3, 0), (3, 1), (3, 2), (3, 3), (208, 4), (3, 7), (3, 8)] := t210_so
theorem sz_laws_Rule : szT Try.prog Y.laws_Rule = some 9 := t210_sz
theorem by_laws_Rule : bytesT Try.prog Y.laws_Rule = some 72 := t210_by
theorem ag_laws_Rule : aggT Try.prog Y.laws_Rule = some true := t210_ag
theorem so_laws_Zone : stOf Try.prog Y.laws_Zone = some [(3, 0), (3, 1), (3, 2)] := t212_so
theorem sz_laws_Zone : szT Try.prog Y.laws_Zone = some 3 := t212_sz
theorem by_laws_Zone : bytesT Try.prog Y.laws_Zone = some 24 := t212_by
theorem ag_laws_Zone : aggT Try.prog Y.laws_Zone = some true := t212_ag
theorem so_laws_Link : stOf Try.prog Y.laws_Link = some [(3, 0), (3, 1)] := t214_so
theorem sz_laws_Link : szT Try.prog Y.laws_Link = some 2 := t214_sz
theorem by_laws_Link : bytesT Try.prog Y.laws_Link = some 16 := t214_by
theorem ag_laws_Link : aggT Try.prog Y.laws_Link = some true := t214_ag
theorem so_laws_File : stOf Try.prog Y.laws_File = some [(3, 0), (9, 1), (9, 2)] := t220_so
theorem sz_laws_File : szT Try.prog Y.laws_File = some 3 := t220_sz
theorem by_laws_File : bytesT Try.prog Y.laws_File = some 40 := t220_by
theorem ag_laws_File : aggT Try.prog Y.laws_File = some true := t220_ag
theorem laid : laidOutB Try.prog = true := by kernel_rfl

end Go.TL
