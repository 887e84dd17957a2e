/- What the structs of the type table hold: printed by a program of this work out of the translation. No conditions. -/
import Derived.Test.YthkahdjgkcccgaaGreatNm
import Derived.Test.YthkahdjgkcccgaaGreatTOpen
namespace Go.TL
set_option linter.unusedSimpArgs false
open Go.Proofs Go.RowKit

theorem t13_so : stOf Tryz.prog 13 = some [(9, 0), (12, 1)] := by kernel_rfl
theorem t24_so : stOf Tryz.prog 24 = some [(3, 0), (22, 1), (23, 2)] := by kernel_rfl
theorem t25_so : stOf Tryz.prog 25 = some [(3, 0), (22, 1), (23, 2)] := by kernel_rfl
theorem t30_so : stOf Tryz.prog 30 = some [(3, 0), (28, 1), (29, 2)] := by kernel_rfl
theorem t31_so : stOf Tryz.prog 31 = some [(3, 0), (28, 1), (29, 2)] := by kernel_rfl
theorem t38_so : stOf Tryz.prog 38 = some [(3, 0), (37, 1)] := by kernel_rfl
theorem t39_so : stOf Tryz.prog 39 = some [(3, 0), (37, 1)] := by kernel_rfl
theorem t41_so : stOf Tryz.prog 41 = some [(3, 0), (3, 1), (40, 2)] := by kernel_rfl
theorem t42_so : stOf Tryz.prog 42 = some [(3, 0), (3, 1), (40, 2)] := by kernel_rfl
theorem t44_so : stOf Tryz.prog 44 = some [(3, 0), (3, 1), (3, 2), (3, 3), (42, 4), (43, 7), (43, 8), (43, 9)] := by kernel_rfl
theorem t45_so : stOf Tryz.prog 45 = some [(3, 0), (3, 1), (3, 2), (3, 3), (42, 4), (43, 7), (43, 8), (43, 9)] := by kernel_rfl
theorem t47_so : stOf Tryz.prog 47 = some [(3, 0), (46, 1), (3, 2), (43, 3)] := by kernel_rfl
theorem t48_so : stOf Tryz.prog 48 = some [(3, 0), (46, 1), (3, 2), (43, 3)] := by kernel_rfl
theorem t50_so : stOf Tryz.prog 50 = some [(4, 0), (39, 1), (45, 3), (3, 13), (48, 14), (49, 18)] := by kernel_rfl
theorem t51_so : stOf Tryz.prog 51 = some [(4, 0), (39, 1), (45, 3), (3, 13), (48, 14), (49, 18)] := by kernel_rfl
theorem t53_so : stOf Tryz.prog 53 = some [(3, 0), (3, 1), (3, 2), (3, 3), (9, 4)] := by kernel_rfl
theorem t54_so : stOf Tryz.prog 54 = some [(3, 0), (3, 1), (3, 2), (3, 3), (9, 4)] := by kernel_rfl
theorem t55_so : stOf Tryz.prog 55 = some [(3, 0), (54, 1)] := by kernel_rfl
theorem t56_so : stOf Tryz.prog 56 = some [(3, 0), (54, 1)] := by kernel_rfl
theorem t68_so : stOf Tryz.prog 68 = some [(3, 0), (67, 1)] := by kernel_rfl
theorem t69_so : stOf Tryz.prog 69 = some [(3, 0), (67, 1)] := by kernel_rfl
theorem t71_so : stOf Tryz.prog 71 = some [(3, 0), (3, 1), (70, 2)] := by kernel_rfl
theorem t72_so : stOf Tryz.prog 72 = some [(3, 0), (3, 1), (70, 2)] := by kernel_rfl
theorem t73_so : stOf Tryz.prog 73 = some [(3, 0), (3, 1), (3, 2), (3, 3), (72, 4), (43, 7), (43, 8), (43, 9)] := by kernel_rfl
theorem t74_so : stOf Tryz.prog 74 = some [(3, 0), (3, 1), (3, 2), (3, 3), (72, 4), (43, 7), (43, 8), (43, 9)] := by kernel_rfl
theorem t76_so : stOf Tryz.prog 76 = some [(3, 0), (75, 1), (3, 2), (43, 3)] := by kernel_rfl
theorem t77_so : stOf Tryz.prog 77 = some [(3, 0), (75, 1), (3, 2), (43, 3)] := by kernel_rfl
theorem t79_so : stOf Tryz.prog 79 = some [(4, 0), (69, 1), (74, 3), (3, 13), (77, 14), (78, 18)] := by kernel_rfl
theorem t80_so : stOf Tryz.prog 80 = some [(4, 0), (69, 1), (74, 3), (3, 13), (77, 14), (78, 18)] := by kernel_rfl
theorem t82_so : stOf Tryz.prog 82 = some [(3, 0), (9, 1)] := by kernel_rfl
theorem t83_so : stOf Tryz.prog 83 = some [(3, 0), (9, 1)] := by kernel_rfl
theorem t87_so : stOf Tryz.prog 87 = some [(3, 0), (9, 1)] := by kernel_rfl
theorem t92_so : stOf Tryz.prog 92 = some [(3, 0), (3, 1), (9, 2), (43, 3), (3, 4)] := by kernel_rfl
theorem t93_so : stOf Tryz.prog 93 = some [(3, 0), (3, 1), (9, 2), (43, 3), (3, 4)] := by kernel_rfl
theorem t108_so : stOf Tryz.prog 108 = some [(3, 0), (9, 1), (107, 2)] := by kernel_rfl
theorem t109_so : stOf Tryz.prog 109 = some [(3, 0), (9, 1), (107, 2)] := by kernel_rfl
theorem t110_so : stOf Tryz.prog 110 = some [(3, 0), (109, 1)] := by kernel_rfl
theorem t111_so : stOf Tryz.prog 111 = some [(3, 0), (109, 1)] := by kernel_rfl
theorem t143_so : stOf Tryz.prog 143 = some [(3, 0), (9, 1), (107, 2)] := by kernel_rfl
theorem t144_so : stOf Tryz.prog 144 = some [(3, 0), (143, 1)] := by kernel_rfl
theorem t145_so : stOf Tryz.prog 145 = some [(3, 0), (143, 1)] := by kernel_rfl
theorem t147_so : stOf Tryz.prog 147 = some [(3, 0), (9, 1), (9, 2)] := by kernel_rfl
theorem t148_so : stOf Tryz.prog 148 = some [(3, 0), (9, 1), (9, 2)] := by kernel_rfl
theorem t169_so : stOf Tryz.prog 169 = some [(3, 0), (9, 1), (9, 2)] := by kernel_rfl
theorem t172_so : stOf Tryz.prog 172 = some [(3, 0), (3, 1), (9, 2), (43, 3), (3, 4)] := by kernel_rfl
theorem t192_so : stOf Tryz.prog 192 = some [(3, 0), (3, 1), (3, 2), (3, 3), (9, 4)] := by kernel_rfl
theorem t193_so : stOf Tryz.prog 193 = some [(3, 0), (192, 1)] := by kernel_rfl
theorem t194_so : stOf Tryz.prog 194 = some [(3, 0), (192, 1)] := by kernel_rfl
theorem sz_sl_laws_Member : szT Tryz.prog Y.sl_laws_Member = some 1 := t22_sz
theorem un_sl_laws_Member : Tryz.prog.underlying Y.sl_laws_Member = some (.slice 80) := t22_un
theorem sz_sl_laws_Flight : szT Tryz.prog Y.sl_laws_Flight = some 1 := t23_sz
theorem un_sl_laws_Flight : Tryz.prog.underlying Y.sl_laws_Flight = some (.slice 83) := t23_un
theorem so_laws_Fleet : stOf Tryz.prog Y.laws_Fleet = some [(3, 0), (22, 1), (23, 2)] := t25_so
theorem sz_laws_Fleet : szT Tryz.prog Y.laws_Fleet = some 3 := t25_sz
theorem by_laws_Fleet : bytesT Tryz.prog Y.laws_Fleet = some 56 := t25_by
theorem ag_laws_Fleet : aggT Tryz.prog Y.laws_Fleet = some true := t25_ag
theorem sz_sl_impl_Member : szT Tryz.prog Y.sl_impl_Member = some 1 := t28_sz
theorem un_sl_impl_Member : Tryz.prog.underlying Y.sl_impl_Member = some (.slice 51) := t28_un
theorem sz_sl_impl_Flight : szT Tryz.prog Y.sl_impl_Flight = some 1 := t29_sz
theorem un_sl_impl_Flight : Tryz.prog.underlying Y.sl_impl_Flight = some (.slice 87) := t29_un
theorem so_impl_Fleet : stOf Tryz.prog Y.impl_Fleet = some [(3, 0), (28, 1), (29, 2)] := t31_so
theorem sz_impl_Fleet : szT Tryz.prog Y.impl_Fleet = some 3 := t31_sz
theorem by_impl_Fleet : bytesT Tryz.prog Y.impl_Fleet = some 56 := t31_by
theorem ag_impl_Fleet : aggT Tryz.prog Y.impl_Fleet = some true := t31_ag
theorem sz_sl_impl_File : szT Tryz.prog Y.sl_impl_File = some 1 := t37_sz
theorem un_sl_impl_File : Tryz.prog.underlying Y.sl_impl_File = some (.slice 148) := t37_un
theorem so_impl_Disk : stOf Tryz.prog Y.impl_Disk = some [(3, 0), (37, 1)] := t39_so
theorem sz_impl_Disk : szT Tryz.prog Y.impl_Disk = some 2 := t39_sz
theorem by_impl_Disk : bytesT Tryz.prog Y.impl_Disk = some 32 := t39_by
theorem ag_impl_Disk : aggT Tryz.prog Y.impl_Disk = some true := t39_ag
theorem sz_sl_impl_Entry : szT Tryz.prog Y.sl_impl_Entry = some 1 := t40_sz
theorem un_sl_impl_Entry : Tryz.prog.underlying Y.sl_impl_Entry = some (.slice 56) := t40_un
theorem so_impl_Hard : stOf Tryz.prog Y.impl_Hard = some [(3, 0), (3, 1), (40, 2)] := t42_so
theorem sz_impl_Hard : szT Tryz.prog Y.impl_Hard = some 3 := t42_sz
theorem by_impl_Hard : bytesT Tryz.prog Y.impl_Hard = some 40 := t42_by
theorem ag_impl_Hard : aggT Tryz.prog Y.impl_Hard = some true := t42_ag
theorem sz_sl_int : szT Tryz.prog Y.sl_int = some 1 := t43_sz
theorem un_sl_int : Tryz.prog.underlying Y.sl_int = some (.slice 3) := t43_un
theorem so_impl_Raft : stOf Tryz.prog Y.impl_Raft = some [(3, 0), (3, 1), (3, 2), (3, 3), (42, 4), (43, 7), (43, 8), (43, 9)] := t45_so
theorem sz_impl_Raft : szT Tryz.prog Y.impl_Raft = some 10 := t45_sz
theorem by_impl_Raft : bytesT Tryz.prog Y.impl_Raft = some 144 := t45_by
theorem ag_impl_Raft : aggT Tryz.prog Y.impl_Raft = some true := t45_ag
theorem sz_sl_impl_Rel : szT Tryz.prog Y.sl_impl_Rel = some 1 := t46_sz
theorem un_sl_impl_Rel : Tryz.prog.underlying Y.sl_impl_Rel = some (.slice 93) := t46_un
theorem so_impl_Roll : stOf Tryz.prog Y.impl_Roll = some [(3, 0), (46, 1), (3, 2), (43, 3)] := t48_so
theorem sz_impl_Roll : szT Tryz.prog Y.impl_Roll = some 4 := t48_sz
theorem by_impl_Roll : bytesT Tryz.prog Y.impl_Roll = some 64 := t48_by
theorem ag_impl_Roll : aggT Tryz.prog Y.impl_Roll = some true := t48_ag
theorem sz_sl_impl_Held : szT Tryz.prog Y.sl_impl_Held = some 1 := t49_sz
theorem un_sl_impl_Held : Tryz.prog.underlying Y.sl_impl_Held = some (.slice 111) := t49_un
theorem so_impl_Member : stOf Tryz.prog Y.impl_Member = some [(4, 0), (39, 1), (45, 3), (3, 13), (48, 14), (49, 18)] := t51_so
theorem sz_impl_Member : szT Tryz.prog Y.impl_Member = some 19 := t51_sz
theorem by_impl_Member : bytesT Tryz.prog Y.impl_Member = some 280 := t51_by
theorem ag_impl_Member : aggT Tryz.prog Y.impl_Member = some true := t51_ag
theorem sz_sl_impl_Cmd : szT Tryz.prog Y.sl_impl_Cmd = some 1 := t52_sz
theorem un_sl_impl_Cmd : Tryz.prog.underlying Y.sl_impl_Cmd = some (.slice 54) := t52_un
theorem so_impl_Cmd : stOf Tryz.prog Y.impl_Cmd = some [(3, 0), (3, 1), (3, 2), (3, 3), (9, 4)] := t54_so
theorem sz_impl_Cmd : szT Tryz.prog Y.impl_Cmd = some 5 := t54_sz
theorem by_impl_Cmd : bytesT Tryz.prog Y.impl_Cmd = some 48 := t54_by
theorem ag_impl_Cmd : aggT Tryz.prog Y.impl_Cmd = some true := t54_ag
theorem so_impl_Entry : stOf Tryz.prog Y.impl_Entry = some [(3, 0), (54, 1)] := t56_so
theorem sz_impl_Entry : szT Tryz.prog Y.impl_Entry = some 6 := t56_sz
theorem by_impl_Entry : bytesT Tryz.prog Y.impl_Entry = some 56 := t56_by
theorem ag_impl_Entry : aggT Tryz.prog Y.impl_Entry = some true := t56_ag
theorem sz_sl_laws_File : szT Tryz.prog Y.sl_laws_File = some 1 := t67_sz
theorem un_sl_laws_File : Tryz.prog.underlying Y.sl_laws_File = some (.slice 169) := t67_un
theorem so_laws_Disk : stOf Tryz.prog Y.laws_Disk = some [(3, 0), (67, 1)] := t69_so
theorem sz_laws_Disk : szT Tryz.prog Y.laws_Disk = some 2 := t69_sz
theorem by_laws_Disk : bytesT Tryz.prog Y.laws_Disk = some 32 := t69_by
theorem ag_laws_Disk : aggT Tryz.prog Y.laws_Disk = some true := t69_ag
theorem sz_sl_laws_Entry : szT Tryz.prog Y.sl_laws_Entry = some 1 := t70_sz
theorem un_sl_laws_Entry : Tryz.prog.underlying Y.sl_laws_Entry = some (.slice 194) := t70_un
theorem so_laws_Hard : stOf Tryz.prog Y.laws_Hard = some [(3, 0), (3, 1), (70, 2)] := t72_so
theorem sz_laws_Hard : szT Tryz.prog Y.laws_Hard = some 3 := t72_sz
theorem by_laws_Hard : bytesT Tryz.prog Y.laws_Hard = some 40 := t72_by
theorem ag_laws_Hard : aggT Tryz.prog Y.laws_Hard = some true := t72_ag
theorem so_laws_Raft : stOf Tryz.prog Y.laws_Raft = some [(3, 0), (3, 1), (3, 2), (3, 3), (72, 4), (43, 7), (43, 8), (43, 9)] := t74_so
theorem sz_laws_Raft : szT Tryz.prog Y.laws_Raft = some 10 := t74_sz
theorem by_laws_Raft : bytesT Tryz.prog Y.laws_Raft = some 144 := t74_by
theorem ag_laws_Raft : aggT Tryz.prog Y.laws_Raft = some true := t74_ag
theorem sz_sl_laws_Rel : szT Tryz.prog Y.sl_laws_Rel = some 1 := t75_sz
theorem un_sl_laws_Rel : Tryz.prog.underlying Y.sl_laws_Rel = some (.slice 172) := t75_un
theorem so_laws_Roll : stOf Tryz.prog Y.laws_Roll = some [(3, 0), (75, 1), (3, 2), (43, 3)] := t77_so
theorem sz_laws_Roll : szT Tryz.prog Y.laws_Roll = some 4 := t77_sz
theorem by_laws_Roll : bytesT Tryz.prog Y.laws_Roll = some 64 := t77_by
theorem ag_laws_Roll : aggT Tryz.prog Y.laws_Roll = some true := t77_ag
theorem sz_sl_laws_Held : szT Tryz.prog Y.sl_laws_Held = some 1 := t78_sz
theorem un_sl_laws_Held : Tryz.prog.underlying Y.sl_laws_Held = some (.slice 145) := t78_un
theorem so_laws_Member : stOf Tryz.prog Y.laws_Member = some [(4, 0), (69, 1), (74, 3), (3, 13), (77, 14), (78, 18)] := t80_so
theorem sz_laws_Member : szT Tryz.prog Y.laws_Member = some 19 := t80_sz
theorem by_laws_Member : bytesT Tryz.prog Y.laws_Member = some 280 := t80_by
theorem ag_laws_Member : aggT Tryz.prog Y.laws_Member = some true := t80_ag
theorem so_laws_Flight : stOf Tryz.prog Y.laws_Flight = some [(3, 0), (9, 1)] := t83_so
theorem sz_laws_Flight : szT Tryz.prog Y.laws_Flight = some 2 := t83_sz
theorem by_laws_Flight : bytesT Tryz.prog Y.laws_Flight = some 24 := t83_by
theorem ag_laws_Flight : aggT Tryz.prog Y.laws_Flight = some true := t83_ag
theorem so_impl_Flight : stOf Tryz.prog Y.impl_Flight = some [(3, 0), (9, 1)] := t87_so
theorem sz_impl_Flight : szT Tryz.prog Y.impl_Flight = some 2 := t87_sz
theorem by_impl_Flight : bytesT Tryz.prog Y.impl_Flight = some 24 := t87_by
theorem ag_impl_Flight : aggT Tryz.prog Y.impl_Flight = some true := t87_ag
theorem so_impl_Rel : stOf Tryz.prog Y.impl_Rel = some [(3, 0), (3, 1), (9, 2), (43, 3), (3, 4)] := t93_so
theorem sz_impl_Rel : szT Tryz.prog Y.impl_Rel = some 5 := t93_sz
theorem by_impl_Rel : bytesT Tryz.prog Y.impl_Rel = some 64 := t93_by
theorem ag_impl_Rel : aggT Tryz.prog Y.impl_Rel = some true := t93_ag
theorem sz_sl_string : szT Tryz.prog Y.sl_string = some 1 := t107_sz
theorem un_sl_string : Tryz.prog.underlying Y.sl_string = some (.slice 9) := t107_un
theorem so_impl_Parcel : stOf Tryz.prog Y.impl_Parcel = some [(3, 0), (9, 1), (107, 2)] := t109_so
theorem sz_impl_Parcel : szT Tryz.prog Y.impl_Parcel = some 3 := t109_sz
theorem by_impl_Parcel : bytesT Tryz.prog Y.impl_Parcel = some 48 := t109_by
theorem ag_impl_Parcel : aggT Tryz.prog Y.impl_Parcel = some true := t109_ag
theorem so_impl_Held : stOf Tryz.prog Y.impl_Held = some [(3, 0), (109, 1)] := t111_so
theorem sz_impl_Held : szT Tryz.prog Y.impl_Held = some 4 := t111_sz
theorem by_impl_Held : bytesT Tryz.prog Y.impl_Held = some 56 := t111_by
theorem ag_impl_Held : aggT Tryz.prog Y.impl_Held = some true := t111_ag
theorem so_laws_Parcel : stOf Tryz.prog Y.laws_Parcel = some [(3, 0), (9, 1), (107, 2)] := t143_so
theorem sz_laws_Parcel : szT Tryz.prog Y.laws_Parcel = some 3 := t143_sz
theorem by_laws_Parcel : bytesT Tryz.prog Y.laws_Parcel = some 48 := t143_by
theorem ag_laws_Parcel : aggT Tryz.prog Y.laws_Parcel = some true := t143_ag
theorem so_laws_Held : stOf Tryz.prog Y.laws_Held = some [(3, 0), (143, 1)] := t145_so
theorem sz_laws_Held : szT Tryz.prog Y.laws_Held = some 4 := t145_sz
theorem by_laws_Held : bytesT Tryz.prog Y.laws_Held = some 56 := t145_by
theorem ag_laws_Held : aggT Tryz.prog Y.laws_Held = some true := t145_ag
theorem so_impl_File : stOf Tryz.prog Y.impl_File = some [(3, 0), (9, 1), (9, 2)] := t148_so
theorem sz_impl_File : szT Tryz.prog Y.impl_File = some 3 := t148_sz
theorem by_impl_File : bytesT Tryz.prog Y.impl_File = some 40 := t148_by
theorem ag_impl_File : aggT Tryz.prog Y.impl_File = some true := t148_ag
theorem sz_sl_uint8 : szT Tryz.prog Y.sl_uint8 = some 1 := t164_sz
theorem un_sl_uint8 : Tryz.prog.underlying Y.sl_uint8 = some (.slice 5) := t164_un
theorem so_laws_File : stOf Tryz.prog Y.laws_File = some [(3, 0), (9, 1), (9, 2)] := t169_so
theorem sz_laws_File : szT Tryz.prog Y.laws_File = some 3 := t169_sz
theorem by_laws_File : bytesT Tryz.prog Y.laws_File = some 40 := t169_by
theorem ag_laws_File : aggT Tryz.prog Y.laws_File = some true := t169_ag
theorem so_laws_Rel : stOf Tryz.prog Y.laws_Rel = some [(3, 0), (3, 1), (9, 2), (43, 3), (3, 4)] := t172_so
theorem sz_laws_Rel : szT Tryz.prog Y.laws_Rel = some 5 := t172_sz
theorem by_laws_Rel : bytesT Tryz.prog Y.laws_Rel = some 64 := t172_by
theorem ag_laws_Rel : aggT Tryz.prog Y.laws_Rel = some true := t172_ag
theorem so_laws_Cmd : stOf Tryz.prog Y.laws_Cmd = some [(3, 0), (3, 1), (3, 2), (3, 3), (9, 4)] := t192_so
theorem sz_laws_Cmd : szT Tryz.prog Y.laws_Cmd = some 5 := t192_sz
theorem by_laws_Cmd : bytesT Tryz.prog Y.laws_Cmd = some 48 := t192_by
theorem ag_laws_Cmd : aggT Tryz.prog Y.laws_Cmd = some true := t192_ag
theorem so_laws_Entry : stOf Tryz.prog Y.laws_Entry = some [(3, 0), (192, 1)] := t194_so
theorem sz_laws_Entry : szT Tryz.prog Y.laws_Entry = some 6 := t194_sz
theorem by_laws_Entry : bytesT Tryz.prog Y.laws_Entry = some 56 := t194_by
theorem ag_laws_Entry : aggT Tryz.prog Y.laws_Entry = some true := t194_ag
theorem laid : laidOutB Tryz.prog = true := by kernel_rfl

end Go.TL
