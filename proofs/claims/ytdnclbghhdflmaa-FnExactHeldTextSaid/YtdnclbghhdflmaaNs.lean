/- What the structs of the type table hold: printed by a program of this work out of the translation. No conditions. -/
import Derived.Test.YtdnclbghhdflmaaNm
import Derived.Test.YtdnclbghhdflmaaTOpen
namespace Go.TL
open Go.Proofs Go.RowKit

theorem t13_so : stOf Try.prog 13 = some [(9, 0), (12, 1)] := by kernel_rfl
theorem t24_so : stOf Try.prog 24 = some [(3, 0), (3, 1), (3, 2), (3, 3), (3, 4), (9, 5)] := by kernel_rfl
theorem t25_so : stOf Try.prog 25 = some [(3, 0), (3, 1), (3, 2), (3, 3), (3, 4), (9, 5)] := by kernel_rfl
theorem t28_so : stOf Try.prog 28 = some [(3, 0), (3, 1), (3, 2), (3, 3), (3, 4), (9, 5)] := by kernel_rfl
theorem t47_so : stOf Try.prog 47 = some [(3, 0), (9, 1), (46, 2)] := by kernel_rfl
theorem t48_so : stOf Try.prog 48 = some [(3, 0), (9, 1), (46, 2)] := by kernel_rfl
theorem t49_so : stOf Try.prog 49 = some [(3, 0), (48, 1)] := by kernel_rfl
theorem t50_so : stOf Try.prog 50 = some [(3, 0), (48, 1)] := by kernel_rfl
theorem t64_so : stOf Try.prog 64 = some [(3, 0), (9, 1), (46, 2)] := by kernel_rfl
theorem t65_so : stOf Try.prog 65 = some [(3, 0), (64, 1)] := by kernel_rfl
theorem t66_so : stOf Try.prog 66 = some [(3, 0), (64, 1)] := by kernel_rfl
theorem t95_so : stOf Try.prog 95 = some [(42, 0), (3, 1), (3, 2)] := by kernel_rfl
theorem t96_so : stOf Try.prog 96 = some [(42, 0), (3, 1), (3, 2)] := by kernel_rfl
theorem so_laws_Deed : stOf Try.prog Y.laws_Deed = some [(3, 0), (3, 1), (3, 2), (3, 3), (3, 4), (9, 5)] := t25_so
theorem sz_laws_Deed : szT Try.prog Y.laws_Deed = some 6 := t25_sz
theorem by_laws_Deed : bytesT Try.prog Y.laws_Deed = some 56 := t25_by
theorem ag_laws_Deed : aggT Try.prog Y.laws_Deed = some true := t25_ag
theorem so_impl_Deed : stOf Try.prog Y.impl_Deed = some [(3, 0), (3, 1), (3, 2), (3, 3), (3, 4), (9, 5)] := t28_so
theorem sz_impl_Deed : szT Try.prog Y.impl_Deed = some 6 := t28_sz
theorem by_impl_Deed : bytesT Try.prog Y.impl_Deed = some 56 := t28_by
theorem ag_impl_Deed : aggT Try.prog Y.impl_Deed = some true := t28_ag
theorem sz_sl_laws_Held : szT Try.prog Y.sl_laws_Held = some 1 := t31_sz
theorem un_sl_laws_Held : Try.prog.underlying Y.sl_laws_Held = some (.slice 66) := t31_un
theorem sz_sl_impl_Held : szT Try.prog Y.sl_impl_Held = some 1 := t34_sz
theorem un_sl_impl_Held : Try.prog.underlying Y.sl_impl_Held = some (.slice 50) := t34_un
theorem sz_sl_uint8 : szT Try.prog Y.sl_uint8 = some 1 := t42_sz
theorem un_sl_uint8 : Try.prog.underlying Y.sl_uint8 = some (.slice 5) := t42_un
theorem sz_sl_string : szT Try.prog Y.sl_string = some 1 := t46_sz
theorem un_sl_string : Try.prog.underlying Y.sl_string = some (.slice 9) := t46_un
theorem so_impl_Parcel : stOf Try.prog Y.impl_Parcel = some [(3, 0), (9, 1), (46, 2)] := t48_so
theorem sz_impl_Parcel : szT Try.prog Y.impl_Parcel = some 3 := t48_sz
theorem by_impl_Parcel : bytesT Try.prog Y.impl_Parcel = some 48 := t48_by
theorem ag_impl_Parcel : aggT Try.prog Y.impl_Parcel = some true := t48_ag
theorem so_impl_Held : stOf Try.prog Y.impl_Held = some [(3, 0), (48, 1)] := t50_so
theorem sz_impl_Held : szT Try.prog Y.impl_Held = some 4 := t50_sz
theorem by_impl_Held : bytesT Try.prog Y.impl_Held = some 56 := t50_by
theorem ag_impl_Held : aggT Try.prog Y.impl_Held = some true := t50_ag
theorem so_laws_Parcel : stOf Try.prog Y.laws_Parcel = some [(3, 0), (9, 1), (46, 2)] := t64_so
theorem sz_laws_Parcel : szT Try.prog Y.laws_Parcel = some 3 := t64_sz
theorem by_laws_Parcel : bytesT Try.prog Y.laws_Parcel = some 48 := t64_by
theorem ag_laws_Parcel : aggT Try.prog Y.laws_Parcel = some true := t64_ag
theorem so_laws_Held : stOf Try.prog Y.laws_Held = some [(3, 0), (64, 1)] := t66_so
theorem sz_laws_Held : szT Try.prog Y.laws_Held = some 4 := t66_sz
theorem by_laws_Held : bytesT Try.prog Y.laws_Held = some 56 := t66_by
theorem ag_laws_Held : aggT Try.prog Y.laws_Held = some true := t66_ag
theorem sz_sl_int : szT Try.prog Y.sl_int = some 1 := t89_sz
theorem un_sl_int : Try.prog.underlying Y.sl_int = some (.slice 3) := t89_un
theorem laid : laidOutB Try.prog = true := by kernel_rfl

end Go.TL
