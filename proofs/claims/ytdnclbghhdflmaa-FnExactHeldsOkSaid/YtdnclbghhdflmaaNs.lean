/- What the structs of the type table hold: printed by a program of this work out of the translation. No conditions. -/
import Derived.Test.YtdnclbghhdflmaaNm
import Derived.Test.YtdnclbghhdflmaaTOpen
namespace Go.TL
open Go.Proofs Go.RowKit

theorem t13_so : stOf Try.prog 13 = some [(9, 0), (12, 1)] := by kernel_rfl
theorem t24_so : stOf Try.prog 24 = some [(3, 0), (3, 1), (3, 2), (3, 3), (3, 4), (9, 5)] := by kernel_rfl
theorem t25_so : stOf Try.prog 25 = some [(3, 0), (3, 1), (3, 2), (3, 3), (3, 4), (9, 5)] := by kernel_rfl
theorem t28_so : stOf Try.prog 28 = some [(3, 0), (3, 1), (3, 2), (3, 3), (3, 4), (9, 5)] := by kernel_rfl
theorem t47_so : stOf Try.prog 47 = some [(3, 0), (9, 1), (46, 2)] := by kernel_rfl
theorem t48_so : stOf Try.prog 48 = some [(3, 0), (9, 1), (46, 2)] := by kernel_rfl
theorem t49_so : stOf Try.prog 49 = some [(3, 0), (48, 1)] := by kernel_rfl
theorem t50_so : stOf Try.prog 50 = some [(3, 0), (48, 1)] := by kernel_rfl
theorem t64_so : stOf Try.prog 64 = some [(3, 0), (9, 1), (46, 2)] := by kernel_rfl
theorem t65_so : stOf Try.prog 65 = some [(3, 0), (64, 1)] := by kernel_rfl
theorem t66_so : stOf Try.prog 66 = some [(3, 0), (64, 1)] := by kernel_rfl
theorem t95_so : stOf Try.prog 95 = some [(42, 0), (3, 1), (3, 2)] := by kernel_rfl
theorem t96_so : stOf Try.prog 96 = some [(42, 0), (3, 1), (3, 2)] := by kernel_rfl
theorem laid : laidOutB Try.prog = true := by kernel_rfl

end Go.TL
