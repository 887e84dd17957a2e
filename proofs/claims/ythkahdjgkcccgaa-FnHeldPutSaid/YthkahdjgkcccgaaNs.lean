/- What the structs of the type table hold: printed by a program of this work out of the translation. No conditions. -/
import Derived.Test.YthkahdjgkcccgaaNm
import Derived.Test.YthkahdjgkcccgaaTOpen
namespace Go.TL
set_option linter.unusedSimpArgs false
open Go.Proofs Go.RowKit

theorem t13_so : stOf Try.prog 13 = some [(9, 0), (12, 1)] := by kernel_rfl
theorem t37_so : stOf Try.prog 37 = some [(3, 0), (9, 1), (36, 2)] := by kernel_rfl
theorem t38_so : stOf Try.prog 38 = some [(3, 0), (9, 1), (36, 2)] := by kernel_rfl
theorem t39_so : stOf Try.prog 39 = some [(3, 0), (38, 1)] := by kernel_rfl
theorem t40_so : stOf Try.prog 40 = some [(3, 0), (38, 1)] := by kernel_rfl
theorem t44_so : stOf Try.prog 44 = some [(3, 0), (43, 1)] := by kernel_rfl
theorem t45_so : stOf Try.prog 45 = some [(3, 0), (43, 1)] := by kernel_rfl
theorem t56_so : stOf Try.prog 56 = some [(3, 0), (54, 1), (55, 2)] := by kernel_rfl
theorem t57_so : stOf Try.prog 57 = some [(3, 0), (54, 1), (55, 2)] := by kernel_rfl
theorem t64_so : stOf Try.prog 64 = some [(3, 0), (62, 1), (3, 2), (63, 3)] := by kernel_rfl
theorem t65_so : stOf Try.prog 65 = some [(3, 0), (62, 1), (3, 2), (63, 3)] := by kernel_rfl
theorem t66_so : stOf Try.prog 66 = some [(3, 0), (3, 1), (3, 2), (3, 3), (9, 4)] := by kernel_rfl
theorem t67_so : stOf Try.prog 67 = some [(3, 0), (3, 1), (3, 2), (3, 3), (9, 4)] := by kernel_rfl
theorem t71_so : stOf Try.prog 71 = some [(3, 0), (70, 1), (3, 2), (63, 3)] := by kernel_rfl
theorem t72_so : stOf Try.prog 72 = some [(3, 0), (70, 1), (3, 2), (63, 3)] := by kernel_rfl
theorem t76_so : stOf Try.prog 76 = some [(3, 0), (3, 1), (3, 2), (3, 3), (9, 4)] := by kernel_rfl
theorem t83_so : stOf Try.prog 83 = some [(3, 0), (3, 1), (9, 2), (63, 3), (3, 4)] := by kernel_rfl
theorem t84_so : stOf Try.prog 84 = some [(3, 0), (3, 1), (9, 2), (63, 3), (3, 4)] := by kernel_rfl
theorem t106_so : stOf Try.prog 106 = some [(3, 0), (9, 1), (36, 2)] := by kernel_rfl
theorem t107_so : stOf Try.prog 107 = some [(3, 0), (106, 1)] := by kernel_rfl
theorem t108_so : stOf Try.prog 108 = some [(3, 0), (106, 1)] := by kernel_rfl
theorem t134_so : stOf Try.prog 134 = some [(3, 0), (3, 1)] := by kernel_rfl
theorem t135_so : stOf Try.prog 135 = some [(3, 0), (3, 1)] := by kernel_rfl
theorem t137_so : stOf Try.prog 137 = some [(31, 0), (3, 1), (4, 2)] := by kernel_rfl
theorem t138_so : stOf Try.prog 138 = some [(31, 0), (3, 1), (4, 2)] := by kernel_rfl
theorem t145_so : stOf Try.prog 145 = some [(3, 0), (3, 1), (144, 2)] := by kernel_rfl
theorem t146_so : stOf Try.prog 146 = some [(3, 0), (3, 1), (144, 2)] := by kernel_rfl
theorem t147_so : stOf Try.prog 147 = some [(3, 0), (3, 1), (3, 2), (3, 3), (146, 4), (63, 7), (63, 8), (63, 9)] := by kernel_rfl
theorem t148_so : stOf Try.prog 148 = some [(3, 0), (3, 1), (3, 2), (3, 3), (146, 4), (63, 7), (63, 8), (63, 9)] := by kernel_rfl
theorem t152_so : stOf Try.prog 152 = some [(3, 0), (151, 1)] := by kernel_rfl
theorem t153_so : stOf Try.prog 153 = some [(3, 0), (151, 1)] := by kernel_rfl
theorem t154_so : stOf Try.prog 154 = some [(4, 0), (153, 1), (148, 3), (3, 13), (72, 14), (24, 18)] := by kernel_rfl
theorem t155_so : stOf Try.prog 155 = some [(4, 0), (153, 1), (148, 3), (3, 13), (72, 14), (24, 18)] := by kernel_rfl
theorem t179_so : stOf Try.prog 179 = some [(31, 0), (3, 1), (3, 2)] := by kernel_rfl
theorem t180_so : stOf Try.prog 180 = some [(31, 0), (3, 1), (3, 2)] := by kernel_rfl
theorem t188_so : stOf Try.prog 188 = some [(185, 0), (186, 1), (187, 2)] := by kernel_rfl
theorem t189_so : stOf Try.prog 189 = some [(185, 0), (186, 1), (187, 2)] := by kernel_rfl
theorem t196_so : stOf Try.prog 196 = some [(3, 0), (9, 1)] := by kernel_rfl
theorem t197_so : stOf Try.prog 197 = some [(3, 0), (9, 1)] := by kernel_rfl
theorem t201_so : stOf Try.prog 201 = some [(3, 0), (3, 1), (9, 2), (63, 3), (3, 4)] := by kernel_rfl
theorem t216_so : stOf Try.prog 216 = some [(3, 0), (3, 1), (3, 2)] := by kernel_rfl
theorem t217_so : stOf Try.prog 217 = some [(3, 0), (3, 1), (3, 2)] := by kernel_rfl
theorem t221_so : stOf Try.prog 221 = some [(3, 0), (3, 1), (3, 2)] := by kernel_rfl
theorem t222_so : stOf Try.prog 222 = some [(3, 0), (3, 1), (3, 2)] := by kernel_rfl
theorem t223_so : stOf Try.prog 223 = some [(3, 0), (3, 1), (3, 2), (3, 3), (222, 4), (3, 7), (3, 8)] := by kernel_rfl
theorem t224_so : stOf Try.prog 224 = some [(3, 0), (3, 1), (3, 2), (3, 3), (222, 4), (3, 7), (3, 8)] := by kernel_rfl
theorem t225_so : stOf Try.prog 225 = some [(3, 0), (3, 1)] := by kernel_rfl
theorem t226_so : stOf Try.prog 226 = some [(3, 0), (3, 1)] := by kernel_rfl
theorem t233_so : stOf Try.prog 233 = some [(3, 0), (9, 1), (9, 2)] := by kernel_rfl
theorem t234_so : stOf Try.prog 234 = some [(3, 0), (9, 1), (9, 2)] := by kernel_rfl
theorem t235_so : stOf Try.prog 235 = some [(3, 0), (76, 1)] := by kernel_rfl
theorem t236_so : stOf Try.prog 236 = some [(3, 0), (76, 1)] := by kernel_rfl
theorem sz_sl_laws_Held : szT Try.prog Y.sl_laws_Held = some 1 := t22_sz
theorem un_sl_laws_Held : Try.prog.underlying Y.sl_laws_Held = some (.slice 108) := t22_un
theorem sz_sl_impl_Held : szT Try.prog Y.sl_impl_Held = some 1 := t24_sz
theorem un_sl_impl_Held : Try.prog.underlying Y.sl_impl_Held = some (.slice 40) := t24_un
theorem sz_sl_uint8 : szT Try.prog Y.sl_uint8 = some 1 := t31_sz
theorem un_sl_uint8 : Try.prog.underlying Y.sl_uint8 = some (.slice 5) := t31_un
theorem sz_sl_string : szT Try.prog Y.sl_string = some 1 := t36_sz
theorem un_sl_string : Try.prog.underlying Y.sl_string = some (.slice 9) := t36_un
theorem so_impl_Parcel : stOf Try.prog Y.impl_Parcel = some [(3, 0), (9, 1), (36, 2)] := t38_so
theorem sz_impl_Parcel : szT Try.prog Y.impl_Parcel = some 3 := t38_sz
theorem by_impl_Parcel : bytesT Try.prog Y.impl_Parcel = some 48 := t38_by
theorem ag_impl_Parcel : aggT Try.prog Y.impl_Parcel = some true := t38_ag
theorem so_impl_Held : stOf Try.prog Y.impl_Held = some [(3, 0), (38, 1)] := t40_so
theorem sz_impl_Held : szT Try.prog Y.impl_Held = some 4 := t40_sz
theorem by_impl_Held : bytesT Try.prog Y.impl_Held = some 56 := t40_by
theorem ag_impl_Held : aggT Try.prog Y.impl_Held = some true := t40_ag
theorem sz_sl_impl_Shift : szT Try.prog Y.sl_impl_Shift = some 1 := t43_sz
theorem un_sl_impl_Shift : Try.prog.underlying Y.sl_impl_Shift = some (.slice 135) := t43_un
theorem so_impl_Table : stOf Try.prog Y.impl_Table = some [(3, 0), (43, 1)] := t45_so
theorem sz_impl_Table : szT Try.prog Y.impl_Table = some 2 := t45_sz
theorem by_impl_Table : bytesT Try.prog Y.impl_Table = some 32 := t45_by
theorem ag_impl_Table : aggT Try.prog Y.impl_Table = some true := t45_ag
theorem sz_sl_impl_Member : szT Try.prog Y.sl_impl_Member = some 1 := t54_sz
theorem un_sl_impl_Member : Try.prog.underlying Y.sl_impl_Member = some (.slice 155) := t54_un
theorem sz_sl_impl_Flight : szT Try.prog Y.sl_impl_Flight = some 1 := t55_sz
theorem un_sl_impl_Flight : Try.prog.underlying Y.sl_impl_Flight = some (.slice 197) := t55_un
theorem so_impl_Fleet : stOf Try.prog Y.impl_Fleet = some [(3, 0), (54, 1), (55, 2)] := t57_so
theorem sz_impl_Fleet : szT Try.prog Y.impl_Fleet = some 3 := t57_sz
theorem by_impl_Fleet : bytesT Try.prog Y.impl_Fleet = some 56 := t57_by
theorem ag_impl_Fleet : aggT Try.prog Y.impl_Fleet = some true := t57_ag
theorem sz_sl_laws_Rel : szT Try.prog Y.sl_laws_Rel = some 1 := t62_sz
theorem un_sl_laws_Rel : Try.prog.underlying Y.sl_laws_Rel = some (.slice 201) := t62_un
theorem sz_sl_int : szT Try.prog Y.sl_int = some 1 := t63_sz
theorem un_sl_int : Try.prog.underlying Y.sl_int = some (.slice 3) := t63_un
theorem so_laws_Roll : stOf Try.prog Y.laws_Roll = some [(3, 0), (62, 1), (3, 2), (63, 3)] := t65_so
theorem sz_laws_Roll : szT Try.prog Y.laws_Roll = some 4 := t65_sz
theorem by_laws_Roll : bytesT Try.prog Y.laws_Roll = some 64 := t65_by
theorem ag_laws_Roll : aggT Try.prog Y.laws_Roll = some true := t65_ag
theorem so_laws_Cmd : stOf Try.prog Y.laws_Cmd = some [(3, 0), (3, 1), (3, 2), (3, 3), (9, 4)] := t67_so
theorem sz_laws_Cmd : szT Try.prog Y.laws_Cmd = some 5 := t67_sz
theorem by_laws_Cmd : bytesT Try.prog Y.laws_Cmd = some 48 := t67_by
theorem ag_laws_Cmd : aggT Try.prog Y.laws_Cmd = some true := t67_ag
theorem sz_sl_impl_Rel : szT Try.prog Y.sl_impl_Rel = some 1 := t70_sz
theorem un_sl_impl_Rel : Try.prog.underlying Y.sl_impl_Rel = some (.slice 84) := t70_un
theorem so_impl_Roll : stOf Try.prog Y.impl_Roll = some [(3, 0), (70, 1), (3, 2), (63, 3)] := t72_so
theorem sz_impl_Roll : szT Try.prog Y.impl_Roll = some 4 := t72_sz
theorem by_impl_Roll : bytesT Try.prog Y.impl_Roll = some 64 := t72_by
theorem ag_impl_Roll : aggT Try.prog Y.impl_Roll = some true := t72_ag
theorem so_impl_Cmd : stOf Try.prog Y.impl_Cmd = some [(3, 0), (3, 1), (3, 2), (3, 3), (9, 4)] := t76_so
theorem sz_impl_Cmd : szT Try.prog Y.impl_Cmd = some 5 := t76_sz
theorem by_impl_Cmd : bytesT Try.prog Y.impl_Cmd = some 48 := t76_by
theorem ag_impl_Cmd : aggT Try.prog Y.impl_Cmd = some true := t76_ag
theorem so_impl_Rel : stOf Try.prog Y.impl_Rel = some [(3, 0), (3, 1), (9, 2), (63, 3), (3, 4)] := t84_so
theorem sz_impl_Rel : szT Try.prog Y.impl_Rel = some 5 := t84_sz
theorem by_impl_Rel : bytesT Try.prog Y.impl_Rel = some 64 := t84_by
theorem ag_impl_Rel : aggT Try.prog Y.impl_Rel = some true := t84_ag
theorem sz_sl_impl_Cmd : szT Try.prog Y.sl_impl_Cmd = some 1 := t89_sz
theorem un_sl_impl_Cmd : Try.prog.underlying Y.sl_impl_Cmd = some (.slice 76) := t89_un
theorem sz_sl_laws_Cmd : szT Try.prog Y.sl_laws_Cmd = some 1 := t98_sz
theorem un_sl_laws_Cmd : Try.prog.underlying Y.sl_laws_Cmd = some (.slice 67) := t98_un
theorem so_laws_Parcel : stOf Try.prog Y.laws_Parcel = some [(3, 0), (9, 1), (36, 2)] := t106_so
theorem sz_laws_Parcel : szT Try.prog Y.laws_Parcel = some 3 := t106_sz
theorem by_laws_Parcel : bytesT Try.prog Y.laws_Parcel = some 48 := t106_by
theorem ag_laws_Parcel : aggT Try.prog Y.laws_Parcel = some true := t106_ag
theorem so_laws_Held : stOf Try.prog Y.laws_Held = some [(3, 0), (106, 1)] := t108_so
theorem sz_laws_Held : szT Try.prog Y.laws_Held = some 4 := t108_sz
theorem by_laws_Held : bytesT Try.prog Y.laws_Held = some 56 := t108_by
theorem ag_laws_Held : aggT Try.prog Y.laws_Held = some true := t108_ag
theorem so_impl_Shift : stOf Try.prog Y.impl_Shift = some [(3, 0), (3, 1)] := t135_so
theorem sz_impl_Shift : szT Try.prog Y.impl_Shift = some 2 := t135_sz
theorem by_impl_Shift : bytesT Try.prog Y.impl_Shift = some 16 := t135_by
theorem ag_impl_Shift : aggT Try.prog Y.impl_Shift = some true := t135_ag
theorem so_impl_reader : stOf Try.prog Y.impl_reader = some [(31, 0), (3, 1), (4, 2)] := t138_so
theorem sz_impl_reader : szT Try.prog Y.impl_reader = some 3 := t138_sz
theorem by_impl_reader : bytesT Try.prog Y.impl_reader = some 40 := t138_by
theorem ag_impl_reader : aggT Try.prog Y.impl_reader = some true := t138_ag
theorem sz_sl_impl_Entry : szT Try.prog Y.sl_impl_Entry = some 1 := t144_sz
theorem un_sl_impl_Entry : Try.prog.underlying Y.sl_impl_Entry = some (.slice 236) := t144_un
theorem so_impl_Hard : stOf Try.prog Y.impl_Hard = some [(3, 0), (3, 1), (144, 2)] := t146_so
theorem sz_impl_Hard : szT Try.prog Y.impl_Hard = some 3 := t146_sz
theorem by_impl_Hard : bytesT Try.prog Y.impl_Hard = some 40 := t146_by
theorem ag_impl_Hard : aggT Try.prog Y.impl_Hard = some true := t146_ag
theorem so_impl_Raft : stOf Try.prog Y.impl_Raft = some [(3, 0), (3, 1), (3, 2), (3, 3), (146, 4), (63, 7), (63, 8), (63, 9)] := t148_so
theorem sz_impl_Raft : szT Try.prog Y.impl_Raft = some 10 := t148_sz
theorem by_impl_Raft : bytesT Try.prog Y.impl_Raft = some 144 := t148_by
theorem ag_impl_Raft : aggT Try.prog Y.impl_Raft = some true := t148_ag
theorem sz_sl_impl_File : szT Try.prog Y.sl_impl_File = some 1 := t151_sz
theorem un_sl_impl_File : Try.prog.underlying Y.sl_impl_File = some (.slice 234) := t151_un
theorem so_impl_Disk : stOf Try.prog Y.impl_Disk = some [(3, 0), (151, 1)] := t153_so
theorem sz_impl_Disk : szT Try.prog Y.impl_Disk = some 2 := t153_sz
theorem by_impl_Disk : bytesT Try.prog Y.impl_Disk = some 32 := t153_by
theorem ag_impl_Disk : aggT Try.prog Y.impl_Disk = some true := t153_ag
theorem so_impl_Member : stOf Try.prog Y.impl_Member = some [(4, 0), (153, 1), (148, 3), (3, 13), (72, 14), (24, 18)] := t155_so
theorem sz_impl_Member : szT Try.prog Y.impl_Member = some 19 := t155_sz
theorem by_impl_Member : bytesT Try.prog Y.impl_Member = some 280 := t155_by
theorem ag_impl_Member : aggT Try.prog Y.impl_Member = some true := t155_ag
theorem sz_sl_impl_Rule : szT Try.prog Y.sl_impl_Rule = some 1 := t185_sz
theorem un_sl_impl_Rule : Try.prog.underlying Y.sl_impl_Rule = some (.slice 224) := t185_un
theorem sz_sl_impl_Zone : szT Try.prog Y.sl_impl_Zone = some 1 := t186_sz
theorem un_sl_impl_Zone : Try.prog.underlying Y.sl_impl_Zone = some (.slice 217) := t186_un
theorem sz_sl_impl_Link : szT Try.prog Y.sl_impl_Link = some 1 := t187_sz
theorem un_sl_impl_Link : Try.prog.underlying Y.sl_impl_Link = some (.slice 226) := t187_un
theorem so_impl_Source : stOf Try.prog Y.impl_Source = some [(185, 0), (186, 1), (187, 2)] := t189_so
theorem sz_impl_Source : szT Try.prog Y.impl_Source = some 3 := t189_sz
theorem by_impl_Source : bytesT Try.prog Y.impl_Source = some 72 := t189_by
theorem ag_impl_Source : aggT Try.prog Y.impl_Source = some true := t189_ag
theorem so_impl_Flight : stOf Try.prog Y.impl_Flight = some [(3, 0), (9, 1)] := t197_so
theorem sz_impl_Flight : szT Try.prog Y.impl_Flight = some 2 := t197_sz
theorem by_impl_Flight : bytesT Try.prog Y.impl_Flight = some 24 := t197_by
theorem ag_impl_Flight : aggT Try.prog Y.impl_Flight = some true := t197_ag
theorem so_laws_Rel : stOf Try.prog Y.laws_Rel = some [(3, 0), (3, 1), (9, 2), (63, 3), (3, 4)] := t201_so
theorem sz_laws_Rel : szT Try.prog Y.laws_Rel = some 5 := t201_sz
theorem by_laws_Rel : bytesT Try.prog Y.laws_Rel = some 64 := t201_by
theorem ag_laws_Rel : aggT Try.prog Y.laws_Rel = some true := t201_ag
theorem so_impl_Zone : stOf Try.prog Y.impl_Zone = some [(3, 0), (3, 1), (3, 2)] := t217_so
theorem sz_impl_Zone : szT Try.prog Y.impl_Zone = some 3 := t217_sz
theorem by_impl_Zone : bytesT Try.prog Y.impl_Zone = some 24 := t217_by
theorem ag_impl_Zone : aggT Try.prog Y.impl_Zone = some true := t217_ag
theorem so_impl_On : stOf Try.prog Y.impl_On = some [(3, 0), (3, 1), (3, 2)] := t222_so
theorem sz_impl_On : szT Try.prog Y.impl_On = some 3 := t222_sz
theorem by_impl_On : bytesT Try.prog Y.impl_On = some 24 := t222_by
theorem ag_impl_On : aggT Try.prog Y.impl_On = some true := t222_ag
theorem so_impl_Rule : stOf Try.prog Y.impl_Rule = some [(3, 0), (3, 1), (3, 2), (3, 3), (222, 4), (3, 7), (3, 8)] := t224_so
theorem sz_impl_Rule : szT Try.prog Y.impl_Rule = some 9 := t224_sz
theorem by_impl_Rule : bytesT Try.prog Y.impl_Rule = some 72 := t224_by
theorem ag_impl_Rule : aggT Try.prog Y.impl_Rule = some true := t224_ag
theorem so_impl_Link : stOf Try.prog Y.impl_Link = some [(3, 0), (3, 1)] := t226_so
theorem sz_impl_Link : szT Try.prog Y.impl_Link = some 2 := t226_sz
theorem by_impl_Link : bytesT Try.prog Y.impl_Link = some 16 := t226_by
theorem ag_impl_Link : aggT Try.prog Y.impl_Link = some true := t226_ag
theorem so_impl_File : stOf Try.prog Y.impl_File = some [(3, 0), (9, 1), (9, 2)] := t234_so
theorem sz_impl_File : szT Try.prog Y.impl_File = some 3 := t234_sz
theorem by_impl_File : bytesT Try.prog Y.impl_File = some 40 := t234_by
theorem ag_impl_File : aggT Try.prog Y.impl_File = some true := t234_ag
theorem so_impl_Entry : stOf Try.prog Y.impl_Entry = some [(3, 0), (76, 1)] := t236_so
theorem sz_impl_Entry : szT Try.prog Y.impl_Entry = some 6 := t236_sz
theorem by_impl_Entry : bytesT Try.prog Y.impl_Entry = some 56 := t236_by
theorem ag_impl_Entry : aggT Try.prog Y.impl_Entry = some true := t236_ag
theorem laid : laidOutB Try.prog = true := by kernel_rfl

end Go.TL
