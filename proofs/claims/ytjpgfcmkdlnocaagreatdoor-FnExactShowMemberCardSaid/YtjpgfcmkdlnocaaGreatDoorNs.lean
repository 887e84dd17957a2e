/- What the structs of the type table hold: printed by a program of this work out of the translation. No conditions. -/
import Derived.Test.YtjpgfcmkdlnocaaGreatDoorNm
import Derived.Test.YtjpgfcmkdlnocaaGreatDoorTOpen
namespace Go.TL
set_option linter.unusedSimpArgs false
open Go.Proofs Go.RowKit

theorem t13_so : stOf Tryz.prog 13 = some [(9, 0), (12, 1)] := by kernel_rfl
theorem t24_so : stOf Tryz.prog 24 = some [(3, 0), (22, 1), (23, 2)] := by kernel_rfl
theorem t25_so : stOf Tryz.prog 25 = some [(3, 0), (22, 1), (23, 2)] := by kernel_rfl
theorem t30_so : stOf Tryz.prog 30 = some [(3, 0), (28, 1), (29, 2)] := by kernel_rfl
theorem t31_so : stOf Tryz.prog 31 = some [(3, 0), (28, 1), (29, 2)] := by kernel_rfl
theorem t40_so : stOf Tryz.prog 40 = some [(3, 0), (39, 1)] := by kernel_rfl
theorem t41_so : stOf Tryz.prog 41 = some [(3, 0), (39, 1)] := by kernel_rfl
theorem t43_so : stOf Tryz.prog 43 = some [(3, 0), (3, 1), (42, 2)] := by kernel_rfl
theorem t44_so : stOf Tryz.prog 44 = some [(3, 0), (3, 1), (42, 2)] := by kernel_rfl
theorem t46_so : stOf Tryz.prog 46 = some [(3, 0), (3, 1), (3, 2), (3, 3), (44, 4), (45, 7), (45, 8), (45, 9)] := by kernel_rfl
theorem t47_so : stOf Tryz.prog 47 = some [(3, 0), (3, 1), (3, 2), (3, 3), (44, 4), (45, 7), (45, 8), (45, 9)] := by kernel_rfl
theorem t49_so : stOf Tryz.prog 49 = some [(3, 0), (48, 1), (3, 2), (45, 3)] := by kernel_rfl
theorem t50_so : stOf Tryz.prog 50 = some [(3, 0), (48, 1), (3, 2), (45, 3)] := by kernel_rfl
theorem t52_so : stOf Tryz.prog 52 = some [(4, 0), (41, 1), (47, 3), (3, 13), (50, 14), (51, 18)] := by kernel_rfl
theorem t53_so : stOf Tryz.prog 53 = some [(4, 0), (41, 1), (47, 3), (3, 13), (50, 14), (51, 18)] := by kernel_rfl
theorem t62_so : stOf Tryz.prog 62 = some [(3, 0), (61, 1)] := by kernel_rfl
theorem t63_so : stOf Tryz.prog 63 = some [(3, 0), (61, 1)] := by kernel_rfl
theorem t65_so : stOf Tryz.prog 65 = some [(3, 0), (3, 1), (64, 2)] := by kernel_rfl
theorem t66_so : stOf Tryz.prog 66 = some [(3, 0), (3, 1), (64, 2)] := by kernel_rfl
theorem t67_so : stOf Tryz.prog 67 = some [(3, 0), (3, 1), (3, 2), (3, 3), (66, 4), (45, 7), (45, 8), (45, 9)] := by kernel_rfl
theorem t68_so : stOf Tryz.prog 68 = some [(3, 0), (3, 1), (3, 2), (3, 3), (66, 4), (45, 7), (45, 8), (45, 9)] := by kernel_rfl
theorem t70_so : stOf Tryz.prog 70 = some [(3, 0), (69, 1), (3, 2), (45, 3)] := by kernel_rfl
theorem t71_so : stOf Tryz.prog 71 = some [(3, 0), (69, 1), (3, 2), (45, 3)] := by kernel_rfl
theorem t73_so : stOf Tryz.prog 73 = some [(4, 0), (63, 1), (68, 3), (3, 13), (71, 14), (72, 18)] := by kernel_rfl
theorem t74_so : stOf Tryz.prog 74 = some [(4, 0), (63, 1), (68, 3), (3, 13), (71, 14), (72, 18)] := by kernel_rfl
theorem t76_so : stOf Tryz.prog 76 = some [(3, 0), (9, 1)] := by kernel_rfl
theorem t77_so : stOf Tryz.prog 77 = some [(3, 0), (9, 1)] := by kernel_rfl
theorem t80_so : stOf Tryz.prog 80 = some [(3, 0), (9, 1)] := by kernel_rfl
theorem t108_so : stOf Tryz.prog 108 = some [(3, 0), (9, 1), (54, 2)] := by kernel_rfl
theorem t109_so : stOf Tryz.prog 109 = some [(3, 0), (9, 1), (54, 2)] := by kernel_rfl
theorem t110_so : stOf Tryz.prog 110 = some [(3, 0), (109, 1)] := by kernel_rfl
theorem t111_so : stOf Tryz.prog 111 = some [(3, 0), (109, 1)] := by kernel_rfl
theorem t113_so : stOf Tryz.prog 113 = some [(3, 0), (9, 1), (9, 2)] := by kernel_rfl
theorem t114_so : stOf Tryz.prog 114 = some [(3, 0), (9, 1), (9, 2)] := by kernel_rfl
theorem t118_so : stOf Tryz.prog 118 = some [(3, 0), (3, 1), (9, 2), (45, 3), (3, 4)] := by kernel_rfl
theorem t119_so : stOf Tryz.prog 119 = some [(3, 0), (3, 1), (9, 2), (45, 3), (3, 4)] := by kernel_rfl
theorem t120_so : stOf Tryz.prog 120 = some [(3, 0), (9, 1), (54, 2)] := by kernel_rfl
theorem t121_so : stOf Tryz.prog 121 = some [(3, 0), (120, 1)] := by kernel_rfl
theorem t122_so : stOf Tryz.prog 122 = some [(3, 0), (120, 1)] := by kernel_rfl
theorem t136_so : stOf Tryz.prog 136 = some [(3, 0), (9, 1), (9, 2)] := by kernel_rfl
theorem t139_so : stOf Tryz.prog 139 = some [(3, 0), (3, 1), (9, 2), (45, 3), (3, 4)] := by kernel_rfl
theorem t142_so : stOf Tryz.prog 142 = some [(3, 0), (3, 1), (3, 2), (3, 3), (9, 4)] := by kernel_rfl
theorem t143_so : stOf Tryz.prog 143 = some [(3, 0), (3, 1), (3, 2), (3, 3), (9, 4)] := by kernel_rfl
theorem t144_so : stOf Tryz.prog 144 = some [(3, 0), (143, 1)] := by kernel_rfl
theorem t145_so : stOf Tryz.prog 145 = some [(3, 0), (143, 1)] := by kernel_rfl
theorem t160_so : stOf Tryz.prog 160 = some [(3, 0), (3, 1), (3, 2), (3, 3), (9, 4)] := by kernel_rfl
theorem t161_so : stOf Tryz.prog 161 = some [(3, 0), (160, 1)] := by kernel_rfl
theorem t162_so : stOf Tryz.prog 162 = some [(3, 0), (160, 1)] := by kernel_rfl
theorem sz_sl_laws_Member : szT Tryz.prog Y.sl_laws_Member = some 1 := t22_sz
theorem un_sl_laws_Member : Tryz.prog.underlying Y.sl_laws_Member = some (.slice 74) := t22_un
theorem sz_sl_laws_Flight : szT Tryz.prog Y.sl_laws_Flight = some 1 := t23_sz
theorem un_sl_laws_Flight : Tryz.prog.underlying Y.sl_laws_Flight = some (.slice 77) := t23_un
theorem so_laws_Fleet : stOf Tryz.prog Y.laws_Fleet = some [(3, 0), (22, 1), (23, 2)] := t25_so
theorem sz_laws_Fleet : szT Tryz.prog Y.laws_Fleet = some 3 := t25_sz
theorem by_laws_Fleet : bytesT Tryz.prog Y.laws_Fleet = some 56 := t25_by
theorem ag_laws_Fleet : aggT Tryz.prog Y.laws_Fleet = some true := t25_ag
theorem sz_sl_impl_Member : szT Tryz.prog Y.sl_impl_Member = some 1 := t28_sz
theorem un_sl_impl_Member : Tryz.prog.underlying Y.sl_impl_Member = some (.slice 53) := t28_un
theorem sz_sl_impl_Flight : szT Tryz.prog Y.sl_impl_Flight = some 1 := t29_sz
theorem un_sl_impl_Flight : Tryz.prog.underlying Y.sl_impl_Flight = some (.slice 80) := t29_un
theorem so_impl_Fleet : stOf Tryz.prog Y.impl_Fleet = some [(3, 0), (28, 1), (29, 2)] := t31_so
theorem sz_impl_Fleet : szT Tryz.prog Y.impl_Fleet = some 3 := t31_sz
theorem by_impl_Fleet : bytesT Tryz.prog Y.impl_Fleet = some 56 := t31_by
theorem ag_impl_Fleet : aggT Tryz.prog Y.impl_Fleet = some true := t31_ag
theorem sz_sl_impl_File : szT Tryz.prog Y.sl_impl_File = some 1 := t39_sz
theorem un_sl_impl_File : Tryz.prog.underlying Y.sl_impl_File = some (.slice 114) := t39_un
theorem so_impl_Disk : stOf Tryz.prog Y.impl_Disk = some [(3, 0), (39, 1)] := t41_so
theorem sz_impl_Disk : szT Tryz.prog Y.impl_Disk = some 2 := t41_sz
theorem by_impl_Disk : bytesT Tryz.prog Y.impl_Disk = some 32 := t41_by
theorem ag_impl_Disk : aggT Tryz.prog Y.impl_Disk = some true := t41_ag
theorem sz_sl_impl_Entry : szT Tryz.prog Y.sl_impl_Entry = some 1 := t42_sz
theorem un_sl_impl_Entry : Tryz.prog.underlying Y.sl_impl_Entry = some (.slice 145) := t42_un
theorem so_impl_Hard : stOf Tryz.prog Y.impl_Hard = some [(3, 0), (3, 1), (42, 2)] := t44_so
theorem sz_impl_Hard : szT Tryz.prog Y.impl_Hard = some 3 := t44_sz
theorem by_impl_Hard : bytesT Tryz.prog Y.impl_Hard = some 40 := t44_by
theorem ag_impl_Hard : aggT Tryz.prog Y.impl_Hard = some true := t44_ag
theorem sz_sl_int : szT Tryz.prog Y.sl_int = some 1 := t45_sz
theorem un_sl_int : Tryz.prog.underlying Y.sl_int = some (.slice 3) := t45_un
theorem so_impl_Raft : stOf Tryz.prog Y.impl_Raft = some [(3, 0), (3, 1), (3, 2), (3, 3), (44, 4), (45, 7), (45, 8), (45, 9)] := t47_so
theorem sz_impl_Raft : szT Tryz.prog Y.impl_Raft = some 10 := t47_sz
theorem by_impl_Raft : bytesT Tryz.prog Y.impl_Raft = some 144 := t47_by
theorem ag_impl_Raft : aggT Tryz.prog Y.impl_Raft = some true := t47_ag
theorem sz_sl_impl_Rel : szT Tryz.prog Y.sl_impl_Rel = some 1 := t48_sz
theorem un_sl_impl_Rel : Tryz.prog.underlying Y.sl_impl_Rel = some (.slice 119) := t48_un
theorem so_impl_Roll : stOf Tryz.prog Y.impl_Roll = some [(3, 0), (48, 1), (3, 2), (45, 3)] := t50_so
theorem sz_impl_Roll : szT Tryz.prog Y.impl_Roll = some 4 := t50_sz
theorem by_impl_Roll : bytesT Tryz.prog Y.impl_Roll = some 64 := t50_by
theorem ag_impl_Roll : aggT Tryz.prog Y.impl_Roll = some true := t50_ag
theorem sz_sl_impl_Held : szT Tryz.prog Y.sl_impl_Held = some 1 := t51_sz
theorem un_sl_impl_Held : Tryz.prog.underlying Y.sl_impl_Held = some (.slice 122) := t51_un
theorem so_impl_Member : stOf Tryz.prog Y.impl_Member = some [(4, 0), (41, 1), (47, 3), (3, 13), (50, 14), (51, 18)] := t53_so
theorem sz_impl_Member : szT Tryz.prog Y.impl_Member = some 19 := t53_sz
theorem by_impl_Member : bytesT Tryz.prog Y.impl_Member = some 280 := t53_by
theorem ag_impl_Member : aggT Tryz.prog Y.impl_Member = some true := t53_ag
theorem sz_sl_string : szT Tryz.prog Y.sl_string = some 1 := t54_sz
theorem un_sl_string : Tryz.prog.underlying Y.sl_string = some (.slice 9) := t54_un
theorem sz_sl_laws_File : szT Tryz.prog Y.sl_laws_File = some 1 := t61_sz
theorem un_sl_laws_File : Tryz.prog.underlying Y.sl_laws_File = some (.slice 136) := t61_un
theorem so_laws_Disk : stOf Tryz.prog Y.laws_Disk = some [(3, 0), (61, 1)] := t63_so
theorem sz_laws_Disk : szT Tryz.prog Y.laws_Disk = some 2 := t63_sz
theorem by_laws_Disk : bytesT Tryz.prog Y.laws_Disk = some 32 := t63_by
theorem ag_laws_Disk : aggT Tryz.prog Y.laws_Disk = some true := t63_ag
theorem sz_sl_laws_Entry : szT Tryz.prog Y.sl_laws_Entry = some 1 := t64_sz
theorem un_sl_laws_Entry : Tryz.prog.underlying Y.sl_laws_Entry = some (.slice 162) := t64_un
theorem so_laws_Hard : stOf Tryz.prog Y.laws_Hard = some [(3, 0), (3, 1), (64, 2)] := t66_so
theorem sz_laws_Hard : szT Tryz.prog Y.laws_Hard = some 3 := t66_sz
theorem by_laws_Hard : bytesT Tryz.prog Y.laws_Hard = some 40 := t66_by
theorem ag_laws_Hard : aggT Tryz.prog Y.laws_Hard = some true := t66_ag
theorem so_laws_Raft : stOf Tryz.prog Y.laws_Raft = some [(3, 0), (3, 1), (3, 2), (3, 3), (66, 4), (45, 7), (45, 8), (45, 9)] := t68_so
theorem sz_laws_Raft : szT Tryz.prog Y.laws_Raft = some 10 := t68_sz
theorem by_laws_Raft : bytesT Tryz.prog Y.laws_Raft = some 144 := t68_by
theorem ag_laws_Raft : aggT Tryz.prog Y.laws_Raft = some true := t68_ag
theorem sz_sl_laws_Rel : szT Tryz.prog Y.sl_laws_Rel = some 1 := t69_sz
theorem un_sl_laws_Rel : Tryz.prog.underlying Y.sl_laws_Rel = some (.slice 139) := t69_un
theorem so_laws_Roll : stOf Tryz.prog Y.laws_Roll = some [(3, 0), (69, 1), (3, 2), (45, 3)] := t71_so
theorem sz_laws_Roll : szT Tryz.prog Y.laws_Roll = some 4 := t71_sz
theorem by_laws_Roll : bytesT Tryz.prog Y.laws_Roll = some 64 := t71_by
theorem ag_laws_Roll : aggT Tryz.prog Y.laws_Roll = some true := t71_ag
theorem sz_sl_laws_Held : szT Tryz.prog Y.sl_laws_Held = some 1 := t72_sz
theorem un_sl_laws_Held : Tryz.prog.underlying Y.sl_laws_Held = some (.slice 111) := t72_un
theorem so_laws_Member : stOf Tryz.prog Y.laws_Member = some [(4, 0), (63, 1), (68, 3), (3, 13), (71, 14), (72, 18)] := t74_so
theorem sz_laws_Member : szT Tryz.prog Y.laws_Member = some 19 := t74_sz
theorem by_laws_Member : bytesT Tryz.prog Y.laws_Member = some 280 := t74_by
theorem ag_laws_Member : aggT Tryz.prog Y.laws_Member = some true := t74_ag
theorem so_laws_Flight : stOf Tryz.prog Y.laws_Flight = some [(3, 0), (9, 1)] := t77_so
theorem sz_laws_Flight : szT Tryz.prog Y.laws_Flight = some 2 := t77_sz
theorem by_laws_Flight : bytesT Tryz.prog Y.laws_Flight = some 24 := t77_by
theorem ag_laws_Flight : aggT Tryz.prog Y.laws_Flight = some true := t77_ag
theorem so_impl_Flight : stOf Tryz.prog Y.impl_Flight = some [(3, 0), (9, 1)] := t80_so
theorem sz_impl_Flight : szT Tryz.prog Y.impl_Flight = some 2 := t80_sz
theorem by_impl_Flight : bytesT Tryz.prog Y.impl_Flight = some 24 := t80_by
theorem ag_impl_Flight : aggT Tryz.prog Y.impl_Flight = some true := t80_ag
theorem sz_sl_uint8 : szT Tryz.prog Y.sl_uint8 = some 1 := t81_sz
theorem un_sl_uint8 : Tryz.prog.underlying Y.sl_uint8 = some (.slice 5) := t81_un
theorem so_laws_Parcel : stOf Tryz.prog Y.laws_Parcel = some [(3, 0), (9, 1), (54, 2)] := t109_so
theorem sz_laws_Parcel : szT Tryz.prog Y.laws_Parcel = some 3 := t109_sz
theorem by_laws_Parcel : bytesT Tryz.prog Y.laws_Parcel = some 48 := t109_by
theorem ag_laws_Parcel : aggT Tryz.prog Y.laws_Parcel = some true := t109_ag
theorem so_laws_Held : stOf Tryz.prog Y.laws_Held = some [(3, 0), (109, 1)] := t111_so
theorem sz_laws_Held : szT Tryz.prog Y.laws_Held = some 4 := t111_sz
theorem by_laws_Held : bytesT Tryz.prog Y.laws_Held = some 56 := t111_by
theorem ag_laws_Held : aggT Tryz.prog Y.laws_Held = some true := t111_ag
theorem so_impl_File : stOf Tryz.prog Y.impl_File = some [(3, 0), (9, 1), (9, 2)] := t114_so
theorem sz_impl_File : szT Tryz.prog Y.impl_File = some 3 := t114_sz
theorem by_impl_File : bytesT Tryz.prog Y.impl_File = some 40 := t114_by
theorem ag_impl_File : aggT Tryz.prog Y.impl_File = some true := t114_ag
theorem so_impl_Rel : stOf Tryz.prog Y.impl_Rel = some [(3, 0), (3, 1), (9, 2), (45, 3), (3, 4)] := t119_so
theorem sz_impl_Rel : szT Tryz.prog Y.impl_Rel = some 5 := t119_sz
theorem by_impl_Rel : bytesT Tryz.prog Y.impl_Rel = some 64 := t119_by
theorem ag_impl_Rel : aggT Tryz.prog Y.impl_Rel = some true := t119_ag
theorem so_impl_Parcel : stOf Tryz.prog Y.impl_Parcel = some [(3, 0), (9, 1), (54, 2)] := t120_so
theorem sz_impl_Parcel : szT Tryz.prog Y.impl_Parcel = some 3 := t120_sz
theorem by_impl_Parcel : bytesT Tryz.prog Y.impl_Parcel = some 48 := t120_by
theorem ag_impl_Parcel : aggT Tryz.prog Y.impl_Parcel = some true := t120_ag
theorem so_impl_Held : stOf Tryz.prog Y.impl_Held = some [(3, 0), (120, 1)] := t122_so
theorem sz_impl_Held : szT Tryz.prog Y.impl_Held = some 4 := t122_sz
theorem by_impl_Held : bytesT Tryz.prog Y.impl_Held = some 56 := t122_by
theorem ag_impl_Held : aggT Tryz.prog Y.impl_Held = some true := t122_ag
theorem so_laws_File : stOf Tryz.prog Y.laws_File = some [(3, 0), (9, 1), (9, 2)] := t136_so
theorem sz_laws_File : szT Tryz.prog Y.laws_File = some 3 := t136_sz
theorem by_laws_File : bytesT Tryz.prog Y.laws_File = some 40 := t136_by
theorem ag_laws_File : aggT Tryz.prog Y.laws_File = some true := t136_ag
theorem so_laws_Rel : stOf Tryz.prog Y.laws_Rel = some [(3, 0), (3, 1), (9, 2), (45, 3), (3, 4)] := t139_so
theorem sz_laws_Rel : szT Tryz.prog Y.laws_Rel = some 5 := t139_sz
theorem by_laws_Rel : bytesT Tryz.prog Y.laws_Rel = some 64 := t139_by
theorem ag_laws_Rel : aggT Tryz.prog Y.laws_Rel = some true := t139_ag
theorem so_impl_Cmd : stOf Tryz.prog Y.impl_Cmd = some [(3, 0), (3, 1), (3, 2), (3, 3), (9, 4)] := t143_so
theorem sz_impl_Cmd : szT Tryz.prog Y.impl_Cmd = some 5 := t143_sz
theorem by_impl_Cmd : bytesT Tryz.prog Y.impl_Cmd = some 48 := t143_by
theorem ag_impl_Cmd : aggT Tryz.prog Y.impl_Cmd = some true := t143_ag
theorem so_impl_Entry : stOf Tryz.prog Y.impl_Entry = some [(3, 0), (143, 1)] := t145_so
theorem sz_impl_Entry : szT Tryz.prog Y.impl_Entry = some 6 := t145_sz
theorem by_impl_Entry : bytesT Tryz.prog Y.impl_Entry = some 56 := t145_by
theorem ag_impl_Entry : aggT Tryz.prog Y.impl_Entry = some true := t145_ag
theorem so_laws_Cmd : stOf Tryz.prog Y.laws_Cmd = some [(3, 0), (3, 1), (3, 2), (3, 3), (9, 4)] := t160_so
theorem sz_laws_Cmd : szT Tryz.prog Y.laws_Cmd = some 5 := t160_sz
theorem by_laws_Cmd : bytesT Tryz.prog Y.laws_Cmd = some 48 := t160_by
theorem ag_laws_Cmd : aggT Tryz.prog Y.laws_Cmd = some true := t160_ag
theorem so_laws_Entry : stOf Tryz.prog Y.laws_Entry = some [(3, 0), (160, 1)] := t162_so
theorem sz_laws_Entry : szT Tryz.prog Y.laws_Entry = some 6 := t162_sz
theorem by_laws_Entry : bytesT Tryz.prog Y.laws_Entry = some 56 := t162_by
theorem ag_laws_Entry : aggT Tryz.prog Y.laws_Entry = some true := t162_ag
theorem laid : laidOutB Tryz.prog = true := by kernel_rfl

end Go.TL
