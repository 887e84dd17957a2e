/- What the structs of the type table hold: printed by a program of this work out of the translation. No conditions. -/
import Derived.Test.YtekohallfeebeaaGreatNm
import Derived.Test.YtekohallfeebeaaGreatTOpen
namespace Go.TL
open Go.Proofs Go.RowKit

theorem t13_so : stOf Tryz.prog 13 = some [(9, 0), (12, 1)] := by kernel_rfl
theorem t24_so : stOf Tryz.prog 24 = some [(3, 0), (22, 1), (23, 2)] := by kernel_rfl
theorem t25_so : stOf Tryz.prog 25 = some [(3, 0), (22, 1), (23, 2)] := by kernel_rfl
theorem t30_so : stOf Tryz.prog 30 = some [(3, 0), (28, 1), (29, 2)] := by kernel_rfl
theorem t31_so : stOf Tryz.prog 31 = some [(3, 0), (28, 1), (29, 2)] := by kernel_rfl
theorem t41_so : stOf Tryz.prog 41 = some [(3, 0), (40, 1)] := by kernel_rfl
theorem t42_so : stOf Tryz.prog 42 = some [(3, 0), (40, 1)] := by kernel_rfl
theorem t44_so : stOf Tryz.prog 44 = some [(3, 0), (3, 1), (43, 2)] := by kernel_rfl
theorem t45_so : stOf Tryz.prog 45 = some [(3, 0), (3, 1), (43, 2)] := by kernel_rfl
theorem t47_so : stOf Tryz.prog 47 = some [(3, 0), (3, 1), (3, 2), (3, 3), (45, 4), (46, 7), (46, 8), (46, 9)] := by kernel_rfl
theorem t48_so : stOf Tryz.prog 48 = some [(3, 0), (3, 1), (3, 2), (3, 3), (45, 4), (46, 7), (46, 8), (46, 9)] := by kernel_rfl
theorem t50_so : stOf Tryz.prog 50 = some [(3, 0), (49, 1), (3, 2), (46, 3)] := by kernel_rfl
theorem t51_so : stOf Tryz.prog 51 = some [(3, 0), (49, 1), (3, 2), (46, 3)] := by kernel_rfl
theorem t53_so : stOf Tryz.prog 53 = some [(4, 0), (42, 1), (48, 3), (3, 13), (51, 14), (52, 18)] := by kernel_rfl
theorem t54_so : stOf Tryz.prog 54 = some [(4, 0), (42, 1), (48, 3), (3, 13), (51, 14), (52, 18)] := by kernel_rfl
theorem t56_so : stOf Tryz.prog 56 = some [(3, 0), (9, 1)] := by kernel_rfl
theorem t57_so : stOf Tryz.prog 57 = some [(3, 0), (9, 1)] := by kernel_rfl
theorem t65_so : stOf Tryz.prog 65 = some [(3, 0), (3, 1), (3, 2), (3, 3), (9, 4)] := by kernel_rfl
theorem t66_so : stOf Tryz.prog 66 = some [(3, 0), (3, 1), (3, 2), (3, 3), (9, 4)] := by kernel_rfl
theorem t67_so : stOf Tryz.prog 67 = some [(3, 0), (66, 1)] := by kernel_rfl
theorem t68_so : stOf Tryz.prog 68 = some [(3, 0), (66, 1)] := by kernel_rfl
theorem t72_so : stOf Tryz.prog 72 = some [(3, 0), (3, 1), (9, 2), (46, 3), (3, 4)] := by kernel_rfl
theorem t73_so : stOf Tryz.prog 73 = some [(3, 0), (3, 1), (9, 2), (46, 3), (3, 4)] := by kernel_rfl
theorem t78_so : stOf Tryz.prog 78 = some [(3, 0), (9, 1), (77, 2)] := by kernel_rfl
theorem t79_so : stOf Tryz.prog 79 = some [(3, 0), (9, 1), (77, 2)] := by kernel_rfl
theorem t80_so : stOf Tryz.prog 80 = some [(3, 0), (79, 1)] := by kernel_rfl
theorem t81_so : stOf Tryz.prog 81 = some [(3, 0), (79, 1)] := by kernel_rfl
theorem t90_so : stOf Tryz.prog 90 = some [(3, 0), (89, 1)] := by kernel_rfl
theorem t91_so : stOf Tryz.prog 91 = some [(3, 0), (89, 1)] := by kernel_rfl
theorem t93_so : stOf Tryz.prog 93 = some [(3, 0), (3, 1), (92, 2)] := by kernel_rfl
theorem t94_so : stOf Tryz.prog 94 = some [(3, 0), (3, 1), (92, 2)] := by kernel_rfl
theorem t95_so : stOf Tryz.prog 95 = some [(3, 0), (3, 1), (3, 2), (3, 3), (94, 4), (46, 7), (46, 8), (46, 9)] := by kernel_rfl
theorem t96_so : stOf Tryz.prog 96 = some [(3, 0), (3, 1), (3, 2), (3, 3), (94, 4), (46, 7), (46, 8), (46, 9)] := by kernel_rfl
theorem t98_so : stOf Tryz.prog 98 = some [(3, 0), (97, 1), (3, 2), (46, 3)] := by kernel_rfl
theorem t99_so : stOf Tryz.prog 99 = some [(3, 0), (97, 1), (3, 2), (46, 3)] := by kernel_rfl
theorem t101_so : stOf Tryz.prog 101 = some [(4, 0), (91, 1), (96, 3), (3, 13), (99, 14), (100, 18)] := by kernel_rfl
theorem t102_so : stOf Tryz.prog 102 = some [(4, 0), (91, 1), (96, 3), (3, 13), (99, 14), (100, 18)] := by kernel_rfl
theorem t104_so : stOf Tryz.prog 104 = some [(3, 0), (9, 1)] := by kernel_rfl
theorem t129_so : stOf Tryz.prog 129 = some [(3, 0), (9, 1), (9, 2)] := by kernel_rfl
theorem t130_so : stOf Tryz.prog 130 = some [(3, 0), (9, 1), (9, 2)] := by kernel_rfl
theorem t155_so : stOf Tryz.prog 155 = some [(3, 0), (9, 1), (77, 2)] := by kernel_rfl
theorem t156_so : stOf Tryz.prog 156 = some [(3, 0), (155, 1)] := by kernel_rfl
theorem t157_so : stOf Tryz.prog 157 = some [(3, 0), (155, 1)] := by kernel_rfl
theorem t179_so : stOf Tryz.prog 179 = some [(3, 0), (9, 1), (9, 2)] := by kernel_rfl
theorem t182_so : stOf Tryz.prog 182 = some [(3, 0), (3, 1), (9, 2), (46, 3), (3, 4)] := by kernel_rfl
theorem t206_so : stOf Tryz.prog 206 = some [(3, 0), (3, 1), (3, 2), (3, 3), (9, 4)] := by kernel_rfl
theorem t207_so : stOf Tryz.prog 207 = some [(3, 0), (206, 1)] := by kernel_rfl
theorem t208_so : stOf Tryz.prog 208 = some [(3, 0), (206, 1)] := by kernel_rfl
theorem sz_sl_laws_Member : szT Tryz.prog Y.sl_laws_Member = some 1 := t22_sz
theorem un_sl_laws_Member : Tryz.prog.underlying Y.sl_laws_Member = some (.slice 102) := t22_un
theorem sz_sl_laws_Flight : szT Tryz.prog Y.sl_laws_Flight = some 1 := t23_sz
theorem un_sl_laws_Flight : Tryz.prog.underlying Y.sl_laws_Flight = some (.slice 104) := t23_un
theorem so_laws_Fleet : stOf Tryz.prog Y.laws_Fleet = some [(3, 0), (22, 1), (23, 2)] := t25_so
theorem sz_laws_Fleet : szT Tryz.prog Y.laws_Fleet = some 3 := t25_sz
theorem by_laws_Fleet : bytesT Tryz.prog Y.laws_Fleet = some 56 := t25_by
theorem ag_laws_Fleet : aggT Tryz.prog Y.laws_Fleet = some true := t25_ag
theorem sz_sl_impl_Member : szT Tryz.prog Y.sl_impl_Member = some 1 := t28_sz
theorem un_sl_impl_Member : Tryz.prog.underlying Y.sl_impl_Member = some (.slice 54) := t28_un
theorem sz_sl_impl_Flight : szT Tryz.prog Y.sl_impl_Flight = some 1 := t29_sz
theorem un_sl_impl_Flight : Tryz.prog.underlying Y.sl_impl_Flight = some (.slice 57) := t29_un
theorem so_impl_Fleet : stOf Tryz.prog Y.impl_Fleet = some [(3, 0), (28, 1), (29, 2)] := t31_so
theorem sz_impl_Fleet : szT Tryz.prog Y.impl_Fleet = some 3 := t31_sz
theorem by_impl_Fleet : bytesT Tryz.prog Y.impl_Fleet = some 56 := t31_by
theorem ag_impl_Fleet : aggT Tryz.prog Y.impl_Fleet = some true := t31_ag
theorem sz_sl_impl_File : szT Tryz.prog Y.sl_impl_File = some 1 := t40_sz
theorem un_sl_impl_File : Tryz.prog.underlying Y.sl_impl_File = some (.slice 130) := t40_un
theorem so_impl_Disk : stOf Tryz.prog Y.impl_Disk = some [(3, 0), (40, 1)] := t42_so
theorem sz_impl_Disk : szT Tryz.prog Y.impl_Disk = some 2 := t42_sz
theorem by_impl_Disk : bytesT Tryz.prog Y.impl_Disk = some 32 := t42_by
theorem ag_impl_Disk : aggT Tryz.prog Y.impl_Disk = some true := t42_ag
theorem sz_sl_impl_Entry : szT Tryz.prog Y.sl_impl_Entry = some 1 := t43_sz
theorem un_sl_impl_Entry : Tryz.prog.underlying Y.sl_impl_Entry = some (.slice 68) := t43_un
theorem so_impl_Hard : stOf Tryz.prog Y.impl_Hard = some [(3, 0), (3, 1), (43, 2)] := t45_so
theorem sz_impl_Hard : szT Tryz.prog Y.impl_Hard = some 3 := t45_sz
theorem by_impl_Hard : bytesT Tryz.prog Y.impl_Hard = some 40 := t45_by
theorem ag_impl_Hard : aggT Tryz.prog Y.impl_Hard = some true := t45_ag
theorem sz_sl_int : szT Tryz.prog Y.sl_int = some 1 := t46_sz
theorem un_sl_int : Tryz.prog.underlying Y.sl_int = some (.slice 3) := t46_un
theorem so_impl_Raft : stOf Tryz.prog Y.impl_Raft = some [(3, 0), (3, 1), (3, 2), (3, 3), (45, 4), (46, 7), (46, 8), (46, 9)] := t48_so
theorem sz_impl_Raft : szT Tryz.prog Y.impl_Raft = some 10 := t48_sz
theorem by_impl_Raft : bytesT Tryz.prog Y.impl_Raft = some 144 := t48_by
theorem ag_impl_Raft : aggT Tryz.prog Y.impl_Raft = some true := t48_ag
theorem sz_sl_impl_Rel : szT Tryz.prog Y.sl_impl_Rel = some 1 := t49_sz
theorem un_sl_impl_Rel : Tryz.prog.underlying Y.sl_impl_Rel = some (.slice 73) := t49_un
theorem so_impl_Roll : stOf Tryz.prog Y.impl_Roll = some [(3, 0), (49, 1), (3, 2), (46, 3)] := t51_so
theorem sz_impl_Roll : szT Tryz.prog Y.impl_Roll = some 4 := t51_sz
theorem by_impl_Roll : bytesT Tryz.prog Y.impl_Roll = some 64 := t51_by
theorem ag_impl_Roll : aggT Tryz.prog Y.impl_Roll = some true := t51_ag
theorem sz_sl_impl_Held : szT Tryz.prog Y.sl_impl_Held = some 1 := t52_sz
theorem un_sl_impl_Held : Tryz.prog.underlying Y.sl_impl_Held = some (.slice 81) := t52_un
theorem so_impl_Member : stOf Tryz.prog Y.impl_Member = some [(4, 0), (42, 1), (48, 3), (3, 13), (51, 14), (52, 18)] := t54_so
theorem sz_impl_Member : szT Tryz.prog Y.impl_Member = some 19 := t54_sz
theorem by_impl_Member : bytesT Tryz.prog Y.impl_Member = some 280 := t54_by
theorem ag_impl_Member : aggT Tryz.prog Y.impl_Member = some true := t54_ag
theorem so_impl_Flight : stOf Tryz.prog Y.impl_Flight = some [(3, 0), (9, 1)] := t57_so
theorem sz_impl_Flight : szT Tryz.prog Y.impl_Flight = some 2 := t57_sz
theorem by_impl_Flight : bytesT Tryz.prog Y.impl_Flight = some 24 := t57_by
theorem ag_impl_Flight : aggT Tryz.prog Y.impl_Flight = some true := t57_ag
theorem so_impl_Cmd : stOf Tryz.prog Y.impl_Cmd = some [(3, 0), (3, 1), (3, 2), (3, 3), (9, 4)] := t66_so
theorem sz_impl_Cmd : szT Tryz.prog Y.impl_Cmd = some 5 := t66_sz
theorem by_impl_Cmd : bytesT Tryz.prog Y.impl_Cmd = some 48 := t66_by
theorem ag_impl_Cmd : aggT Tryz.prog Y.impl_Cmd = some true := t66_ag
theorem so_impl_Entry : stOf Tryz.prog Y.impl_Entry = some [(3, 0), (66, 1)] := t68_so
theorem sz_impl_Entry : szT Tryz.prog Y.impl_Entry = some 6 := t68_sz
theorem by_impl_Entry : bytesT Tryz.prog Y.impl_Entry = some 56 := t68_by
theorem ag_impl_Entry : aggT Tryz.prog Y.impl_Entry = some true := t68_ag
theorem so_impl_Rel : stOf Tryz.prog Y.impl_Rel = some [(3, 0), (3, 1), (9, 2), (46, 3), (3, 4)] := t73_so
theorem sz_impl_Rel : szT Tryz.prog Y.impl_Rel = some 5 := t73_sz
theorem by_impl_Rel : bytesT Tryz.prog Y.impl_Rel = some 64 := t73_by
theorem ag_impl_Rel : aggT Tryz.prog Y.impl_Rel = some true := t73_ag
theorem sz_sl_string : szT Tryz.prog Y.sl_string = some 1 := t77_sz
theorem un_sl_string : Tryz.prog.underlying Y.sl_string = some (.slice 9) := t77_un
theorem so_impl_Parcel : stOf Tryz.prog Y.impl_Parcel = some [(3, 0), (9, 1), (77, 2)] := t79_so
theorem sz_impl_Parcel : szT Tryz.prog Y.impl_Parcel = some 3 := t79_sz
theorem by_impl_Parcel : bytesT Tryz.prog Y.impl_Parcel = some 48 := t79_by
theorem ag_impl_Parcel : aggT Tryz.prog Y.impl_Parcel = some true := t79_ag
theorem so_impl_Held : stOf Tryz.prog Y.impl_Held = some [(3, 0), (79, 1)] := t81_so
theorem sz_impl_Held : szT Tryz.prog Y.impl_Held = some 4 := t81_sz
theorem by_impl_Held : bytesT Tryz.prog Y.impl_Held = some 56 := t81_by
theorem ag_impl_Held : aggT Tryz.prog Y.impl_Held = some true := t81_ag
theorem sz_sl_impl_Cmd : szT Tryz.prog Y.sl_impl_Cmd = some 1 := t83_sz
theorem un_sl_impl_Cmd : Tryz.prog.underlying Y.sl_impl_Cmd = some (.slice 66) := t83_un
theorem sz_sl_laws_File : szT Tryz.prog Y.sl_laws_File = some 1 := t89_sz
theorem un_sl_laws_File : Tryz.prog.underlying Y.sl_laws_File = some (.slice 179) := t89_un
theorem so_laws_Disk : stOf Tryz.prog Y.laws_Disk = some [(3, 0), (89, 1)] := t91_so
theorem sz_laws_Disk : szT Tryz.prog Y.laws_Disk = some 2 := t91_sz
theorem by_laws_Disk : bytesT Tryz.prog Y.laws_Disk = some 32 := t91_by
theorem ag_laws_Disk : aggT Tryz.prog Y.laws_Disk = some true := t91_ag
theorem sz_sl_laws_Entry : szT Tryz.prog Y.sl_laws_Entry = some 1 := t92_sz
theorem un_sl_laws_Entry : Tryz.prog.underlying Y.sl_laws_Entry = some (.slice 208) := t92_un
theorem so_laws_Hard : stOf Tryz.prog Y.laws_Hard = some [(3, 0), (3, 1), (92, 2)] := t94_so
theorem sz_laws_Hard : szT Tryz.prog Y.laws_Hard = some 3 := t94_sz
theorem by_laws_Hard : bytesT Tryz.prog Y.laws_Hard = some 40 := t94_by
theorem ag_laws_Hard : aggT Tryz.prog Y.laws_Hard = some true := t94_ag
theorem so_laws_Raft : stOf Tryz.prog Y.laws_Raft = some [(3, 0), (3, 1), (3, 2), (3, 3), (94, 4), (46, 7), (46, 8), (46, 9)] := t96_so
theorem sz_laws_Raft : szT Tryz.prog Y.laws_Raft = some 10 := t96_sz
theorem by_laws_Raft : bytesT Tryz.prog Y.laws_Raft = some 144 := t96_by
theorem ag_laws_Raft : aggT Tryz.prog Y.laws_Raft = some true := t96_ag
theorem sz_sl_laws_Rel : szT Tryz.prog Y.sl_laws_Rel = some 1 := t97_sz
theorem un_sl_laws_Rel : Tryz.prog.underlying Y.sl_laws_Rel = some (.slice 182) := t97_un
theorem so_laws_Roll : stOf Tryz.prog Y.laws_Roll = some [(3, 0), (97, 1), (3, 2), (46, 3)] := t99_so
theorem sz_laws_Roll : szT Tryz.prog Y.laws_Roll = some 4 := t99_sz
theorem by_laws_Roll : bytesT Tryz.prog Y.laws_Roll = some 64 := t99_by
theorem ag_laws_Roll : aggT Tryz.prog Y.laws_Roll = some true := t99_ag
theorem sz_sl_laws_Held : szT Tryz.prog Y.sl_laws_Held = some 1 := t100_sz
theorem un_sl_laws_Held : Tryz.prog.underlying Y.sl_laws_Held = some (.slice 157) := t100_un
theorem so_laws_Member : stOf Tryz.prog Y.laws_Member = some [(4, 0), (91, 1), (96, 3), (3, 13), (99, 14), (100, 18)] := t102_so
theorem sz_laws_Member : szT Tryz.prog Y.laws_Member = some 19 := t102_sz
theorem by_laws_Member : bytesT Tryz.prog Y.laws_Member = some 280 := t102_by
theorem ag_laws_Member : aggT Tryz.prog Y.laws_Member = some true := t102_ag
theorem so_laws_Flight : stOf Tryz.prog Y.laws_Flight = some [(3, 0), (9, 1)] := t104_so
theorem sz_laws_Flight : szT Tryz.prog Y.laws_Flight = some 2 := t104_sz
theorem by_laws_Flight : bytesT Tryz.prog Y.laws_Flight = some 24 := t104_by
theorem ag_laws_Flight : aggT Tryz.prog Y.laws_Flight = some true := t104_ag
theorem so_impl_File : stOf Tryz.prog Y.impl_File = some [(3, 0), (9, 1), (9, 2)] := t130_so
theorem sz_impl_File : szT Tryz.prog Y.impl_File = some 3 := t130_sz
theorem by_impl_File : bytesT Tryz.prog Y.impl_File = some 40 := t130_by
theorem ag_impl_File : aggT Tryz.prog Y.impl_File = some true := t130_ag
theorem sz_sl_uint8 : szT Tryz.prog Y.sl_uint8 = some 1 := t142_sz
theorem un_sl_uint8 : Tryz.prog.underlying Y.sl_uint8 = some (.slice 5) := t142_un
theorem so_laws_Parcel : stOf Tryz.prog Y.laws_Parcel = some [(3, 0), (9, 1), (77, 2)] := t155_so
theorem sz_laws_Parcel : szT Tryz.prog Y.laws_Parcel = some 3 := t155_sz
theorem by_laws_Parcel : bytesT Tryz.prog Y.laws_Parcel = some 48 := t155_by
theorem ag_laws_Parcel : aggT Tryz.prog Y.laws_Parcel = some true := t155_ag
theorem so_laws_Held : stOf Tryz.prog Y.laws_Held = some [(3, 0), (155, 1)] := t157_so
theorem sz_laws_Held : szT Tryz.prog Y.laws_Held = some 4 := t157_sz
theorem by_laws_Held : bytesT Tryz.prog Y.laws_Held = some 56 := t157_by
theorem ag_laws_Held : aggT Tryz.prog Y.laws_Held = some true := t157_ag
theorem so_laws_File : stOf Tryz.prog Y.laws_File = some [(3, 0), (9, 1), (9, 2)] := t179_so
theorem sz_laws_File : szT Tryz.prog Y.laws_File = some 3 := t179_sz
theorem by_laws_File : bytesT Tryz.prog Y.laws_File = some 40 := t179_by
theorem ag_laws_File : aggT Tryz.prog Y.laws_File = some true := t179_ag
theorem so_laws_Rel : stOf Tryz.prog Y.laws_Rel = some [(3, 0), (3, 1), (9, 2), (46, 3), (3, 4)] := t182_so
theorem sz_laws_Rel : szT Tryz.prog Y.laws_Rel = some 5 := t182_sz
theorem by_laws_Rel : bytesT Tryz.prog Y.laws_Rel = some 64 := t182_by
theorem ag_laws_Rel : aggT Tryz.prog Y.laws_Rel = some true := t182_ag
theorem so_laws_Cmd : stOf Tryz.prog Y.laws_Cmd = some [(3, 0), (3, 1), (3, 2), (3, 3), (9, 4)] := t206_so
theorem sz_laws_Cmd : szT Tryz.prog Y.laws_Cmd = some 5 := t206_sz
theorem by_laws_Cmd : bytesT Tryz.prog Y.laws_Cmd = some 48 := t206_by
theorem ag_laws_Cmd : aggT Tryz.prog Y.laws_Cmd = some true := t206_ag
theorem so_laws_Entry : stOf Tryz.prog Y.laws_Entry = some [(3, 0), (206, 1)] := t208_so
theorem sz_laws_Entry : szT Tryz.prog Y.laws_Entry = some 6 := t208_sz
theorem by_laws_Entry : bytesT Tryz.prog Y.laws_Entry = some 56 := t208_by
theorem ag_laws_Entry : aggT Tryz.prog Y.laws_Entry = some true := t208_ag
theorem laid : laidOutB Tryz.prog = true := by kernel_rfl

end Go.TL
