/- The functions by name, and facts of the type table: printed by a program of this work out of the translation. No conditions. -/
import Derived.Test.YthkahdjgkcccgaaProg
import Derived.Test.YthkahdjgkcccgaaTGo3
import Derived.KernelRfl
namespace Go.TL
set_option linter.unusedSimpArgs false
open Go.Proofs Go.RowKit

@[go_sem] theorem t2_sz : szT Try.prog 2 = some 1 := by kernel_rfl
@[go_sem] theorem t2_by : bytesT Try.prog 2 = some 8 := by kernel_rfl
@[go_sem] theorem t2_ag : aggT Try.prog 2 = some false := by kernel_rfl
@[go_sem] theorem t2_ze : zeroT Try.prog 2 = some [.v (.int .i64 0)] := by kernel_rfl
@[go_sem] theorem t2_un : Try.prog.underlying 2 = some (.int .i64) := by kernel_rfl
@[go_sem] theorem t2_ec (m : Nat) (k : IntKind) (a b : Int) : eqC Try.prog (m + 1) 2 [.int k a] [.int k b] = some (decide (a = b)) := eqC_int t2_un k a b
@[go_sem] theorem t3_sz : szT Try.prog 3 = some 1 := by kernel_rfl
@[go_sem] theorem t3_by : bytesT Try.prog 3 = some 8 := by kernel_rfl
@[go_sem] theorem t3_ag : aggT Try.prog 3 = some false := by kernel_rfl
@[go_sem] theorem t3_ze : zeroT Try.prog 3 = some [.v (.int .i64 0)] := by kernel_rfl
@[go_sem] theorem t3_un : Try.prog.underlying 3 = some (.int .i64) := by kernel_rfl
@[go_sem] theorem t3_ec (m : Nat) (k : IntKind) (a b : Int) : eqC Try.prog (m + 1) 3 [.int k a] [.int k b] = some (decide (a = b)) := eqC_int t3_un k a b
@[go_sem] theorem t4_sz : szT Try.prog 4 = some 1 := by kernel_rfl
@[go_sem] theorem t4_by : bytesT Try.prog 4 = some 1 := by kernel_rfl
@[go_sem] theorem t4_ag : aggT Try.prog 4 = some false := by kernel_rfl
@[go_sem] theorem t4_ze : zeroT Try.prog 4 = some [.v (.bool false)] := by kernel_rfl
@[go_sem] theorem t4_un : Try.prog.underlying 4 = some .bool := by kernel_rfl
@[go_sem] theorem t4_ec (m : Nat) (a b : Bool) : eqC Try.prog (m + 1) 4 [.bool a] [.bool b] = some (a == b) := eqC_bool t4_un a b
@[go_sem] theorem t4_beq (xo yo : Operand) (p q : Prop) [Decidable p] [Decidable q] : binT Try.prog .eql 4 xo yo (.v (.bool (decide p))) (.v (.bool (decide q))) = some (.v (.bool (decide (p ↔ q)))) := b_beq xo yo t4_un p q
@[go_sem] theorem t4_bne (xo yo : Operand) (p q : Prop) [Decidable p] [Decidable q] : binT Try.prog .neq 4 xo yo (.v (.bool (decide p))) (.v (.bool (decide q))) = some (.v (.bool (decide (¬ (p ↔ q))))) := b_bne xo yo t4_un p q
@[go_sem] theorem t5_sz : szT Try.prog 5 = some 1 := by kernel_rfl
@[go_sem] theorem t5_by : bytesT Try.prog 5 = some 1 := by kernel_rfl
@[go_sem] theorem t5_ag : aggT Try.prog 5 = some false := by kernel_rfl
@[go_sem] theorem t5_ze : zeroT Try.prog 5 = some [.v (.int .u8 0)] := by kernel_rfl
@[go_sem] theorem t5_un : Try.prog.underlying 5 = some (.int .u8) := by kernel_rfl
@[go_sem] theorem t5_ec (m : Nat) (k : IntKind) (a b : Int) : eqC Try.prog (m + 1) 5 [.int k a] [.int k b] = some (decide (a = b)) := eqC_int t5_un k a b
@[go_sem] theorem t9_sz : szT Try.prog 9 = some 1 := by kernel_rfl
@[go_sem] theorem t9_by : bytesT Try.prog 9 = some 16 := by kernel_rfl
@[go_sem] theorem t9_ag : aggT Try.prog 9 = some false := by kernel_rfl
@[go_sem] theorem t9_ze : zeroT Try.prog 9 = some [.v (.string ⟨#[]⟩)] := by kernel_rfl
@[go_sem] theorem t9_un : Try.prog.underlying 9 = some .string := by kernel_rfl
@[go_sem] theorem t9_ec (m : Nat) (a b : ByteArray) : eqC Try.prog (m + 1) 9 [.string a] [.string b] = some (decide (a = b)) := eqC_str t9_un a b
@[go_sem] theorem t9_ni : notInt Try.prog 9 = true := by kernel_rfl
@[go_sem] theorem t12_sz : szT Try.prog 12 = some 1 := by kernel_rfl
@[go_sem] theorem t12_by : bytesT Try.prog 12 = some 8 := by kernel_rfl
@[go_sem] theorem t12_ag : aggT Try.prog 12 = some false := by kernel_rfl
@[go_sem] theorem t12_ze : zeroT Try.prog 12 = some [.v (.int .u64 0)] := by kernel_rfl
@[go_sem] theorem t12_un : Try.prog.underlying 12 = some (.int .u64) := by kernel_rfl
@[go_sem] theorem t12_ec (m : Nat) (k : IntKind) (a b : Int) : eqC Try.prog (m + 1) 12 [.int k a] [.int k b] = some (decide (a = b)) := eqC_int t12_un k a b
@[go_sem] theorem t13_sz : szT Try.prog 13 = some 2 := by kernel_rfl
@[go_sem] theorem t13_by : bytesT Try.prog 13 = some 24 := by kernel_rfl
@[go_sem] theorem t13_ag : aggT Try.prog 13 = some true := by kernel_rfl
@[go_sem] theorem t13_ze : zeroT Try.prog 13 = some [.v (.string ⟨#[]⟩), .v (.int .u64 0)] := by kernel_rfl
@[go_sem] theorem t13_f0 : fldT Try.prog 13 0 = some (0, 1, 9) := by kernel_rfl
@[go_sem] theorem t13_f1 : fldT Try.prog 13 1 = some (1, 1, 12) := by kernel_rfl
@[go_sem] theorem t13_fo : fldsOf Try.prog 13 = some [(0, 1), (1, 1)] := by kernel_rfl
@[go_sem] theorem t21_sz : szT Try.prog 21 = some 1 := by kernel_rfl
@[go_sem] theorem t21_by : bytesT Try.prog 21 = some 4 := by kernel_rfl
@[go_sem] theorem t21_ag : aggT Try.prog 21 = some false := by kernel_rfl
@[go_sem] theorem t21_ze : zeroT Try.prog 21 = some [.v (.int .i32 0)] := by kernel_rfl
@[go_sem] theorem t21_un : Try.prog.underlying 21 = some (.int .i32) := by kernel_rfl
@[go_sem] theorem t21_ec (m : Nat) (k : IntKind) (a b : Int) : eqC Try.prog (m + 1) 21 [.int k a] [.int k b] = some (decide (a = b)) := eqC_int t21_un k a b
@[go_sem] theorem t22_sz : szT Try.prog 22 = some 1 := by kernel_rfl
@[go_sem] theorem t22_by : bytesT Try.prog 22 = some 24 := by kernel_rfl
@[go_sem] theorem t22_ag : aggT Try.prog 22 = some false := by kernel_rfl
@[go_sem] theorem t22_ze : zeroT Try.prog 22 = some [.v (.slice none 0 0)] := by kernel_rfl
@[go_sem] theorem t22_el : elemT Try.prog 22 = some 108 := by kernel_rfl
@[go_sem] theorem t22_un : Try.prog.underlying 22 = some (.slice 108) := by kernel_rfl
@[go_sem] theorem t22_ni : notInt Try.prog 22 = true := by kernel_rfl
@[go_sem] theorem t24_sz : szT Try.prog 24 = some 1 := by kernel_rfl
@[go_sem] theorem t24_by : bytesT Try.prog 24 = some 24 := by kernel_rfl
@[go_sem] theorem t24_ag : aggT Try.prog 24 = some false := by kernel_rfl
@[go_sem] theorem t24_ze : zeroT Try.prog 24 = some [.v (.slice none 0 0)] := by kernel_rfl
@[go_sem] theorem t24_el : elemT Try.prog 24 = some 40 := by kernel_rfl
@[go_sem] theorem t24_un : Try.prog.underlying 24 = some (.slice 40) := by kernel_rfl
@[go_sem] theorem t24_ni : notInt Try.prog 24 = true := by kernel_rfl
@[go_sem] theorem t31_sz : szT Try.prog 31 = some 1 := by kernel_rfl
@[go_sem] theorem t31_by : bytesT Try.prog 31 = some 24 := by kernel_rfl
@[go_sem] theorem t31_ag : aggT Try.prog 31 = some false := by kernel_rfl
@[go_sem] theorem t31_ze : zeroT Try.prog 31 = some [.v (.slice none 0 0)] := by kernel_rfl
@[go_sem] theorem t31_el : elemT Try.prog 31 = some 5 := by kernel_rfl
@[go_sem] theorem t31_un : Try.prog.underlying 31 = some (.slice 5) := by kernel_rfl
@[go_sem] theorem t31_ni : notInt Try.prog 31 = true := by kernel_rfl
@[go_sem] theorem t31_bs : byteSlice Try.prog 31 = true := by kernel_rfl
@[go_sem] theorem t36_sz : szT Try.prog 36 = some 1 := by kernel_rfl
@[go_sem] theorem t36_by : bytesT Try.prog 36 = some 24 := by kernel_rfl
@[go_sem] theorem t36_ag : aggT Try.prog 36 = some false := by kernel_rfl
@[go_sem] theorem t36_ze : zeroT Try.prog 36 = some [.v (.slice none 0 0)] := by kernel_rfl
@[go_sem] theorem t36_el : elemT Try.prog 36 = some 9 := by kernel_rfl
@[go_sem] theorem t36_un : Try.prog.underlying 36 = some (.slice 9) := by kernel_rfl
@[go_sem] theorem t36_ni : notInt Try.prog 36 = true := by kernel_rfl
@[go_sem] theorem t37_sz : szT Try.prog 37 = some 3 := by kernel_rfl
@[go_sem] theorem t37_by : bytesT Try.prog 37 = some 48 := by kernel_rfl
@[go_sem] theorem t37_ag : aggT Try.prog 37 = some true := by kernel_rfl
@[go_sem] theorem t37_ze : zeroT Try.prog 37 = some [.v (.int .i64 0), .v (.string ⟨#[]⟩), .v (.slice none 0 0)] := by kernel_rfl
@[go_sem] theorem t37_f0 : fldT Try.prog 37 0 = some (0, 1, 3) := by kernel_rfl
@[go_sem] theorem t37_f1 : fldT Try.prog 37 1 = some (1, 1, 9) := by kernel_rfl
@[go_sem] theorem t37_f2 : fldT Try.prog 37 2 = some (2, 1, 36) := by kernel_rfl
@[go_sem] theorem t37_fo : fldsOf Try.prog 37 = some [(0, 1), (1, 1), (2, 1)] := by kernel_rfl
@[go_sem] theorem t38_sz : szT Try.prog 38 = some 3 := by kernel_rfl
@[go_sem] theorem t38_by : bytesT Try.prog 38 = some 48 := by kernel_rfl
@[go_sem] theorem t38_ag : aggT Try.prog 38 = some true := by kernel_rfl
@[go_sem] theorem t38_ze : zeroT Try.prog 38 = some [.v (.int .i64 0), .v (.string ⟨#[]⟩), .v (.slice none 0 0)] := by kernel_rfl
@[go_sem] theorem t38_f0 : fldT Try.prog 38 0 = some (0, 1, 3) := by kernel_rfl
@[go_sem] theorem t38_f1 : fldT Try.prog 38 1 = some (1, 1, 9) := by kernel_rfl
@[go_sem] theorem t38_f2 : fldT Try.prog 38 2 = some (2, 1, 36) := by kernel_rfl
@[go_sem] theorem t38_fo : fldsOf Try.prog 38 = some [(0, 1), (1, 1), (2, 1)] := by kernel_rfl
@[go_sem] theorem t39_sz : szT Try.prog 39 = some 4 := by kernel_rfl
@[go_sem] theorem t39_by : bytesT Try.prog 39 = some 56 := by kernel_rfl
@[go_sem] theorem t39_ag : aggT Try.prog 39 = some true := by kernel_rfl
@[go_sem] theorem t39_ze : zeroT Try.prog 39 = some [.v (.int .i64 0), .v (.int .i64 0), .v (.string ⟨#[]⟩), .v (.slice none 0 0)] := by kernel_rfl
@[go_sem] theorem t39_f0 : fldT Try.prog 39 0 = some (0, 1, 3) := by kernel_rfl
@[go_sem] theorem t39_f1 : fldT Try.prog 39 1 = some (1, 3, 38) := by kernel_rfl
@[go_sem] theorem t39_fo : fldsOf Try.prog 39 = some [(0, 1), (1, 3)] := by kernel_rfl
@[go_sem] theorem t40_sz : szT Try.prog 40 = some 4 := by kernel_rfl
@[go_sem] theorem t40_by : bytesT Try.prog 40 = some 56 := by kernel_rfl
@[go_sem] theorem t40_ag : aggT Try.prog 40 = some true := by kernel_rfl
@[go_sem] theorem t40_ze : zeroT Try.prog 40 = some [.v (.int .i64 0), .v (.int .i64 0), .v (.string ⟨#[]⟩), .v (.slice none 0 0)] := by kernel_rfl
@[go_sem] theorem t40_f0 : fldT Try.prog 40 0 = some (0, 1, 3) := by kernel_rfl
@[go_sem] theorem t40_f1 : fldT Try.prog 40 1 = some (1, 3, 38) := by kernel_rfl
@[go_sem] theorem t40_fo : fldsOf Try.prog 40 = some [(0, 1), (1, 3)] := by kernel_rfl
@[go_sem] theorem t43_sz : szT Try.prog 43 = some 1 := by kernel_rfl
@[go_sem] theorem t43_by : bytesT Try.prog 43 = some 24 := by kernel_rfl
@[go_sem] theorem t43_ag : aggT Try.prog 43 = some false := by kernel_rfl
@[go_sem] theorem t43_ze : zeroT Try.prog 43 = some [.v (.slice none 0 0)] := by kernel_rfl
@[go_sem] theorem t43_el : elemT Try.prog 43 = some 135 := by kernel_rfl
@[go_sem] theorem t43_un : Try.prog.underlying 43 = some (.slice 135) := by kernel_rfl
@[go_sem] theorem t43_ni : notInt Try.prog 43 = true := by kernel_rfl
@[go_sem] theorem t44_sz : szT Try.prog 44 = some 2 := by kernel_rfl
@[go_sem] theorem t44_by : bytesT Try.prog 44 = some 32 := by kernel_rfl
@[go_sem] theorem t44_ag : aggT Try.prog 44 = some true := by kernel_rfl
@[go_sem] theorem t44_ze : zeroT Try.prog 44 = some [.v (.int .i64 0), .v (.slice none 0 0)] := by kernel_rfl
@[go_sem] theorem t44_f0 : fldT Try.prog 44 0 = some (0, 1, 3) := by kernel_rfl
@[go_sem] theorem t44_f1 : fldT Try.prog 44 1 = some (1, 1, 43) := by kernel_rfl
@[go_sem] theorem t44_fo : fldsOf Try.prog 44 = some [(0, 1), (1, 1)] := by kernel_rfl
@[go_sem] theorem t45_sz : szT Try.prog 45 = some 2 := by kernel_rfl
@[go_sem] theorem t45_by : bytesT Try.prog 45 = some 32 := by kernel_rfl
@[go_sem] theorem t45_ag : aggT Try.prog 45 = some true := by kernel_rfl
@[go_sem] theorem t45_ze : zeroT Try.prog 45 = some [.v (.int .i64 0), .v (.slice none 0 0)] := by kernel_rfl
@[go_sem] theorem t45_f0 : fldT Try.prog 45 0 = some (0, 1, 3) := by kernel_rfl
@[go_sem] theorem t45_f1 : fldT Try.prog 45 1 = some (1, 1, 43) := by kernel_rfl
@[go_sem] theorem t45_fo : fldsOf Try.prog 45 = some [(0, 1), (1, 1)] := by kernel_rfl
@[go_sem] theorem t54_sz : szT Try.prog 54 = some 1 := by kernel_rfl
@[go_sem] theorem t54_by : bytesT Try.prog 54 = some 24 := by kernel_rfl
@[go_sem] theorem t54_ag : aggT Try.prog 54 = some false := by kernel_rfl
@[go_sem] theorem t54_ze : zeroT Try.prog 54 = some [.v (.slice none 0 0)] := by kernel_rfl
@[go_sem] theorem t54_el : elemT Try.prog 54 = some 155 := by kernel_rfl
@[go_sem] theorem t54_un : Try.prog.underlying 54 = some (.slice 155) := by kernel_rfl
@[go_sem] theorem t54_ni : notInt Try.prog 54 = true := by kernel_rfl
@[go_sem] theorem t55_sz : szT Try.prog 55 = some 1 := by kernel_rfl
@[go_sem] theorem t55_by : bytesT Try.prog 55 = some 24 := by kernel_rfl
@[go_sem] theorem t55_ag : aggT Try.prog 55 = some false := by kernel_rfl
@[go_sem] theorem t55_ze : zeroT Try.prog 55 = some [.v (.slice none 0 0)] := by kernel_rfl
@[go_sem] theorem t55_el : elemT Try.prog 55 = some 197 := by kernel_rfl
@[go_sem] theorem t55_un : Try.prog.underlying 55 = some (.slice 197) := by kernel_rfl
@[go_sem] theorem t55_ni : notInt Try.prog 55 = true := by kernel_rfl
@[go_sem] theorem t56_sz : szT Try.prog 56 = some 3 := by kernel_rfl
@[go_sem] theorem t56_by : bytesT Try.prog 56 = some 56 := by kernel_rfl
@[go_sem] theorem t56_ag : aggT Try.prog 56 = some true := by kernel_rfl
@[go_sem] theorem t56_ze : zeroT Try.prog 56 = some [.v (.int .i64 0), .v (.slice none 0 0), .v (.slice none 0 0)] := by kernel_rfl
@[go_sem] theorem t56_f0 : fldT Try.prog 56 0 = some (0, 1, 3) := by kernel_rfl
@[go_sem] theorem t56_f1 : fldT Try.prog 56 1 = some (1, 1, 54) := by kernel_rfl
@[go_sem] theorem t56_f2 : fldT Try.prog 56 2 = some (2, 1, 55) := by kernel_rfl
@[go_sem] theorem t56_fo : fldsOf Try.prog 56 = some [(0, 1), (1, 1), (2, 1)] := by kernel_rfl
@[go_sem] theorem t57_sz : szT Try.prog 57 = some 3 := by kernel_rfl
@[go_sem] theorem t57_by : bytesT Try.prog 57 = some 56 := by kernel_rfl
@[go_sem] theorem t57_ag : aggT Try.prog 57 = some true := by kernel_rfl
@[go_sem] theorem t57_ze : zeroT Try.prog 57 = some [.v (.int .i64 0), .v (.slice none 0 0), .v (.slice none 0 0)] := by kernel_rfl
@[go_sem] theorem t57_f0 : fldT Try.prog 57 0 = some (0, 1, 3) := by kernel_rfl
@[go_sem] theorem t57_f1 : fldT Try.prog 57 1 = some (1, 1, 54) := by kernel_rfl
@[go_sem] theorem t57_f2 : fldT Try.prog 57 2 = some (2, 1, 55) := by kernel_rfl
@[go_sem] theorem t57_fo : fldsOf Try.prog 57 = some [(0, 1), (1, 1), (2, 1)] := by kernel_rfl
@[go_sem] theorem t62_sz : szT Try.prog 62 = some 1 := by kernel_rfl
@[go_sem] theorem t62_by : bytesT Try.prog 62 = some 24 := by kernel_rfl
@[go_sem] theorem t62_ag : aggT Try.prog 62 = some false := by kernel_rfl
@[go_sem] theorem t62_ze : zeroT Try.prog 62 = some [.v (.slice none 0 0)] := by kernel_rfl
@[go_sem] theorem t62_el : elemT Try.prog 62 = some 201 := by kernel_rfl
@[go_sem] theorem t62_un : Try.prog.underlying 62 = some (.slice 201) := by kernel_rfl
@[go_sem] theorem t62_ni : notInt Try.prog 62 = true := by kernel_rfl
@[go_sem] theorem t63_sz : szT Try.prog 63 = some 1 := by kernel_rfl
@[go_sem] theorem t63_by : bytesT Try.prog 63 = some 24 := by kernel_rfl
@[go_sem] theorem t63_ag : aggT Try.prog 63 = some false := by kernel_rfl
@[go_sem] theorem t63_ze : zeroT Try.prog 63 = some [.v (.slice none 0 0)] := by kernel_rfl
@[go_sem] theorem t63_el : elemT Try.prog 63 = some 3 := by kernel_rfl
@[go_sem] theorem t63_un : Try.prog.underlying 63 = some (.slice 3) := by kernel_rfl
@[go_sem] theorem t63_ni : notInt Try.prog 63 = true := by kernel_rfl
@[go_sem] theorem t64_sz : szT Try.prog 64 = some 4 := by kernel_rfl
@[go_sem] theorem t64_by : bytesT Try.prog 64 = some 64 := by kernel_rfl
@[go_sem] theorem t64_ag : aggT Try.prog 64 = some true := by kernel_rfl
@[go_sem] theorem t64_ze : zeroT Try.prog 64 = some [.v (.int .i64 0), .v (.slice none 0 0), .v (.int .i64 0), .v (.slice none 0 0)] := by kernel_rfl
@[go_sem] theorem t64_f0 : fldT Try.prog 64 0 = some (0, 1, 3) := by kernel_rfl
@[go_sem] theorem t64_f1 : fldT Try.prog 64 1 = some (1, 1, 62) := by kernel_rfl
@[go_sem] theorem t64_f2 : fldT Try.prog 64 2 = some (2, 1, 3) := by kernel_rfl
@[go_sem] theorem t64_f3 : fldT Try.prog 64 3 = some (3, 1, 63) := by kernel_rfl
@[go_sem] theorem t64_fo : fldsOf Try.prog 64 = some [(0, 1), (1, 1), (2, 1), (3, 1)] := by kernel_rfl
@[go_sem] theorem t65_sz : szT Try.prog 65 = some 4 := by kernel_rfl
@[go_sem] theorem t65_by : bytesT Try.prog 65 = some 64 := by kernel_rfl
@[go_sem] theorem t65_ag : aggT Try.prog 65 = some true := by kernel_rfl
@[go_sem] theorem t65_ze : zeroT Try.prog 65 = some [.v (.int .i64 0), .v (.slice none 0 0), .v (.int .i64 0), .v (.slice none 0 0)] := by kernel_rfl
@[go_sem] theorem t65_f0 : fldT Try.prog 65 0 = some (0, 1, 3) := by kernel_rfl
@[go_sem] theorem t65_f1 : fldT Try.prog 65 1 = some (1, 1, 62) := by kernel_rfl
@[go_sem] theorem t65_f2 : fldT Try.prog 65 2 = some (2, 1, 3) := by kernel_rfl
@[go_sem] theorem t65_f3 : fldT Try.prog 65 3 = some (3, 1, 63) := by kernel_rfl
@[go_sem] theorem t65_fo : fldsOf Try.prog 65 = some [(0, 1), (1, 1), (2, 1), (3, 1)] := by kernel_rfl
@[go_sem] theorem t66_sz : szT Try.prog 66 = some 5 := by kernel_rfl
@[go_sem] theorem t66_by : bytesT Try.prog 66 = some 48 := by kernel_rfl
@[go_sem] theorem t66_ag : aggT Try.prog 66 = some true := by kernel_rfl
@[go_sem] theorem t66_ze : zeroT Try.prog 66 = some [.v (.int .i64 0), .v (.int .i64 0), .v (.int .i64 0), .v (.int .i64 0), .v (.string ⟨#[]⟩)] := by kernel_rfl
@[go_sem] theorem t66_f0 : fldT Try.prog 66 0 = some (0, 1, 3) := by kernel_rfl
@[go_sem] theorem t66_f1 : fldT Try.prog 66 1 = some (1, 1, 3) := by kernel_rfl
@[go_sem] theorem t66_f2 : fldT Try.prog 66 2 = some (2, 1, 3) := by kernel_rfl
@[go_sem] theorem t66_f3 : fldT Try.prog 66 3 = some (3, 1, 3) := by kernel_rfl
@[go_sem] theorem t66_f4 : fldT Try.prog 66 4 = some (4, 1, 9) := by kernel_rfl
@[go_sem] theorem t66_fo : fldsOf Try.prog 66 = some [(0, 1), (1, 1), (2, 1), (3, 1), (4, 1)] := by kernel_rfl
@[go_sem] theorem t67_sz : szT Try.prog 67 = some 5 := by kernel_rfl
@[go_sem] theorem t67_by : bytesT Try.prog 67 = some 48 := by kernel_rfl
@[go_sem] theorem t67_ag : aggT Try.prog 67 = some true := by kernel_rfl
@[go_sem] theorem t67_ze : zeroT Try.prog 67 = some [.v (.int .i64 0), .v (.int .i64 0), .v (.int .i64 0), .v (.int .i64 0), .v (.string ⟨#[]⟩)] := by kernel_rfl
@[go_sem] theorem t67_f0 : fldT Try.prog 67 0 = some (0, 1, 3) := by kernel_rfl
@[go_sem] theorem t67_f1 : fldT Try.prog 67 1 = some (1, 1, 3) := by kernel_rfl
@[go_sem] theorem t67_f2 : fldT Try.prog 67 2 = some (2, 1, 3) := by kernel_rfl
@[go_sem] theorem t67_f3 : fldT Try.prog 67 3 = some (3, 1, 3) := by kernel_rfl
@[go_sem] theorem t67_f4 : fldT Try.prog 67 4 = some (4, 1, 9) := by kernel_rfl
@[go_sem] theorem t67_fo : fldsOf Try.prog 67 = some [(0, 1), (1, 1), (2, 1), (3, 1), (4, 1)] := by kernel_rfl
@[go_sem] theorem t67_eg : Try.prog.eqGuardType Try.prog.depth 67 = false := by kernel_rfl
@[go_sem] theorem t67_fl : eqFlds Try.prog 67 = some [(3, 0), (3, 1), (3, 2), (3, 3), (9, 4)] := by kernel_rfl
@[go_sem] theorem t67_eq (neg : Bool) (xs ys : List T) : eqAggT Try.prog neg 67 (.agg xs) (.agg ys) = (match toVs xs, toVs ys with | some us, some ws => (eqL Try.prog 19 [(3, 0), (3, 1), (3, 2), (3, 3), (9, 4)] us ws).map fun b => .v (.bool (if neg = true then !b else b)) | _, _ => none) := eqAgg_t t67_eg t67_ag t67_fl neg xs ys
@[go_sem] theorem t70_sz : szT Try.prog 70 = some 1 := by kernel_rfl
@[go_sem] theorem t70_by : bytesT Try.prog 70 = some 24 := by kernel_rfl
@[go_sem] theorem t70_ag : aggT Try.prog 70 = some false := by kernel_rfl
@[go_sem] theorem t70_ze : zeroT Try.prog 70 = some [.v (.slice none 0 0)] := by kernel_rfl
@[go_sem] theorem t70_el : elemT Try.prog 70 = some 84 := by kernel_rfl
@[go_sem] theorem t70_un : Try.prog.underlying 70 = some (.slice 84) := by kernel_rfl
@[go_sem] theorem t70_ni : notInt Try.prog 70 = true := by kernel_rfl
@[go_sem] theorem t71_sz : szT Try.prog 71 = some 4 := by kernel_rfl
@[go_sem] theorem t71_by : bytesT Try.prog 71 = some 64 := by kernel_rfl
@[go_sem] theorem t71_ag : aggT Try.prog 71 = some true := by kernel_rfl
@[go_sem] theorem t71_ze : zeroT Try.prog 71 = some [.v (.int .i64 0), .v (.slice none 0 0), .v (.int .i64 0), .v (.slice none 0 0)] := by kernel_rfl
@[go_sem] theorem t71_f0 : fldT Try.prog 71 0 = some (0, 1, 3) := by kernel_rfl
@[go_sem] theorem t71_f1 : fldT Try.prog 71 1 = some (1, 1, 70) := by kernel_rfl
@[go_sem] theorem t71_f2 : fldT Try.prog 71 2 = some (2, 1, 3) := by kernel_rfl
@[go_sem] theorem t71_f3 : fldT Try.prog 71 3 = some (3, 1, 63) := by kernel_rfl
@[go_sem] theorem t71_fo : fldsOf Try.prog 71 = some [(0, 1), (1, 1), (2, 1), (3, 1)] := by kernel_rfl
@[go_sem] theorem t72_sz : szT Try.prog 72 = some 4 := by kernel_rfl
@[go_sem] theorem t72_by : bytesT Try.prog 72 = some 64 := by kernel_rfl
@[go_sem] theorem t72_ag : aggT Try.prog 72 = some true := by kernel_rfl
@[go_sem] theorem t72_ze : zeroT Try.prog 72 = some [.v (.int .i64 0), .v (.slice none 0 0), .v (.int .i64 0), .v (.slice none 0 0)] := by kernel_rfl
@[go_sem] theorem t72_f0 : fldT Try.prog 72 0 = some (0, 1, 3) := by kernel_rfl
@[go_sem] theorem t72_f1 : fldT Try.prog 72 1 = some (1, 1, 70) := by kernel_rfl
@[go_sem] theorem t72_f2 : fldT Try.prog 72 2 = some (2, 1, 3) := by kernel_rfl
@[go_sem] theorem t72_f3 : fldT Try.prog 72 3 = some (3, 1, 63) := by kernel_rfl
@[go_sem] theorem t72_fo : fldsOf Try.prog 72 = some [(0, 1), (1, 1), (2, 1), (3, 1)] := by kernel_rfl
@[go_sem] theorem t76_sz : szT Try.prog 76 = some 5 := by kernel_rfl
@[go_sem] theorem t76_by : bytesT Try.prog 76 = some 48 := by kernel_rfl
@[go_sem] theorem t76_ag : aggT Try.prog 76 = some true := by kernel_rfl
@[go_sem] theorem t76_ze : zeroT Try.prog 76 = some [.v (.int .i64 0), .v (.int .i64 0), .v (.int .i64 0), .v (.int .i64 0), .v (.string ⟨#[]⟩)] := by kernel_rfl
@[go_sem] theorem t76_f0 : fldT Try.prog 76 0 = some (0, 1, 3) := by kernel_rfl
@[go_sem] theorem t76_f1 : fldT Try.prog 76 1 = some (1, 1, 3) := by kernel_rfl
@[go_sem] theorem t76_f2 : fldT Try.prog 76 2 = some (2, 1, 3) := by kernel_rfl
@[go_sem] theorem t76_f3 : fldT Try.prog 76 3 = some (3, 1, 3) := by kernel_rfl
@[go_sem] theorem t76_f4 : fldT Try.prog 76 4 = some (4, 1, 9) := by kernel_rfl
@[go_sem] theorem t76_fo : fldsOf Try.prog 76 = some [(0, 1), (1, 1), (2, 1), (3, 1), (4, 1)] := by kernel_rfl
@[go_sem] theorem t76_eg : Try.prog.eqGuardType Try.prog.depth 76 = false := by kernel_rfl
@[go_sem] theorem t76_fl : eqFlds Try.prog 76 = some [(3, 0), (3, 1), (3, 2), (3, 3), (9, 4)] := by kernel_rfl
@[go_sem] theorem t76_eq (neg : Bool) (xs ys : List T) : eqAggT Try.prog neg 76 (.agg xs) (.agg ys) = (match toVs xs, toVs ys with | some us, some ws => (eqL Try.prog 19 [(3, 0), (3, 1), (3, 2), (3, 3), (9, 4)] us ws).map fun b => .v (.bool (if neg = true then !b else b)) | _, _ => none) := eqAgg_t t76_eg t76_ag t76_fl neg xs ys
@[go_sem] theorem t83_sz : szT Try.prog 83 = some 5 := by kernel_rfl
@[go_sem] theorem t83_by : bytesT Try.prog 83 = some 64 := by kernel_rfl
@[go_sem] theorem t83_ag : aggT Try.prog 83 = some true := by kernel_rfl
@[go_sem] theorem t83_ze : zeroT Try.prog 83 = some [.v (.int .i64 0), .v (.int .i64 0), .v (.string ⟨#[]⟩), .v (.slice none 0 0), .v (.int .i64 0)] := by kernel_rfl
@[go_sem] theorem t83_f0 : fldT Try.prog 83 0 = some (0, 1, 3) := by kernel_rfl
@[go_sem] theorem t83_f1 : fldT Try.prog 83 1 = some (1, 1, 3) := by kernel_rfl
@[go_sem] theorem t83_f2 : fldT Try.prog 83 2 = some (2, 1, 9) := by kernel_rfl
@[go_sem] theorem t83_f3 : fldT Try.prog 83 3 = some (3, 1, 63) := by kernel_rfl
@[go_sem] theorem t83_f4 : fldT Try.prog 83 4 = some (4, 1, 3) := by kernel_rfl
@[go_sem] theorem t83_fo : fldsOf Try.prog 83 = some [(0, 1), (1, 1), (2, 1), (3, 1), (4, 1)] := by kernel_rfl
@[go_sem] theorem t84_sz : szT Try.prog 84 = some 5 := by kernel_rfl
@[go_sem] theorem t84_by : bytesT Try.prog 84 = some 64 := by kernel_rfl
@[go_sem] theorem t84_ag : aggT Try.prog 84 = some true := by kernel_rfl
@[go_sem] theorem t84_ze : zeroT Try.prog 84 = some [.v (.int .i64 0), .v (.int .i64 0), .v (.string ⟨#[]⟩), .v (.slice none 0 0), .v (.int .i64 0)] := by kernel_rfl
@[go_sem] theorem t84_f0 : fldT Try.prog 84 0 = some (0, 1, 3) := by kernel_rfl
@[go_sem] theorem t84_f1 : fldT Try.prog 84 1 = some (1, 1, 3) := by kernel_rfl
@[go_sem] theorem t84_f2 : fldT Try.prog 84 2 = some (2, 1, 9) := by kernel_rfl
@[go_sem] theorem t84_f3 : fldT Try.prog 84 3 = some (3, 1, 63) := by kernel_rfl
@[go_sem] theorem t84_f4 : fldT Try.prog 84 4 = some (4, 1, 3) := by kernel_rfl
@[go_sem] theorem t84_fo : fldsOf Try.prog 84 = some [(0, 1), (1, 1), (2, 1), (3, 1), (4, 1)] := by kernel_rfl
@[go_sem] theorem t89_sz : szT Try.prog 89 = some 1 := by kernel_rfl
@[go_sem] theorem t89_by : bytesT Try.prog 89 = some 24 := by kernel_rfl
@[go_sem] theorem t89_ag : aggT Try.prog 89 = some false := by kernel_rfl
@[go_sem] theorem t89_ze : zeroT Try.prog 89 = some [.v (.slice none 0 0)] := by kernel_rfl
@[go_sem] theorem t89_el : elemT Try.prog 89 = some 76 := by kernel_rfl
@[go_sem] theorem t89_un : Try.prog.underlying 89 = some (.slice 76) := by kernel_rfl
@[go_sem] theorem t89_ni : notInt Try.prog 89 = true := by kernel_rfl
@[go_sem] theorem t98_sz : szT Try.prog 98 = some 1 := by kernel_rfl
@[go_sem] theorem t98_by : bytesT Try.prog 98 = some 24 := by kernel_rfl
@[go_sem] theorem t98_ag : aggT Try.prog 98 = some false := by kernel_rfl
@[go_sem] theorem t98_ze : zeroT Try.prog 98 = some [.v (.slice none 0 0)] := by kernel_rfl
@[go_sem] theorem t98_el : elemT Try.prog 98 = some 67 := by kernel_rfl
@[go_sem] theorem t98_un : Try.prog.underlying 98 = some (.slice 67) := by kernel_rfl
@[go_sem] theorem t98_ni : notInt Try.prog 98 = true := by kernel_rfl
@[go_sem] theorem t106_sz : szT Try.prog 106 = some 3 := by kernel_rfl
@[go_sem] theorem t106_by : bytesT Try.prog 106 = some 48 := by kernel_rfl
@[go_sem] theorem t106_ag : aggT Try.prog 106 = some true := by kernel_rfl
@[go_sem] theorem t106_ze : zeroT Try.prog 106 = some [.v (.int .i64 0), .v (.string ⟨#[]⟩), .v (.slice none 0 0)] := by kernel_rfl
@[go_sem] theorem t106_f0 : fldT Try.prog 106 0 = some (0, 1, 3) := by kernel_rfl
@[go_sem] theorem t106_f1 : fldT Try.prog 106 1 = some (1, 1, 9) := by kernel_rfl
@[go_sem] theorem t106_f2 : fldT Try.prog 106 2 = some (2, 1, 36) := by kernel_rfl
@[go_sem] theorem t106_fo : fldsOf Try.prog 106 = some [(0, 1), (1, 1), (2, 1)] := by kernel_rfl
@[go_sem] theorem t107_sz : szT Try.prog 107 = some 4 := by kernel_rfl
@[go_sem] theorem t107_by : bytesT Try.prog 107 = some 56 := by kernel_rfl
@[go_sem] theorem t107_ag : aggT Try.prog 107 = some true := by kernel_rfl
@[go_sem] theorem t107_ze : zeroT Try.prog 107 = some [.v (.int .i64 0), .v (.int .i64 0), .v (.string ⟨#[]⟩), .v (.slice none 0 0)] := by kernel_rfl
@[go_sem] theorem t107_f0 : fldT Try.prog 107 0 = some (0, 1, 3) := by kernel_rfl
@[go_sem] theorem t107_f1 : fldT Try.prog 107 1 = some (1, 3, 106) := by kernel_rfl
@[go_sem] theorem t107_fo : fldsOf Try.prog 107 = some [(0, 1), (1, 3)] := by kernel_rfl
@[go_sem] theorem t108_sz : szT Try.prog 108 = some 4 := by kernel_rfl
@[go_sem] theorem t108_by : bytesT Try.prog 108 = some 56 := by kernel_rfl
@[go_sem] theorem t108_ag : aggT Try.prog 108 = some true := by kernel_rfl
@[go_sem] theorem t108_ze : zeroT Try.prog 108 = some [.v (.int .i64 0), .v (.int .i64 0), .v (.string ⟨#[]⟩), .v (.slice none 0 0)] := by kernel_rfl
@[go_sem] theorem t108_f0 : fldT Try.prog 108 0 = some (0, 1, 3) := by kernel_rfl
@[go_sem] theorem t108_f1 : fldT Try.prog 108 1 = some (1, 3, 106) := by kernel_rfl
@[go_sem] theorem t108_fo : fldsOf Try.prog 108 = some [(0, 1), (1, 3)] := by kernel_rfl
@[go_sem] theorem t134_sz : szT Try.prog 134 = some 2 := by kernel_rfl
@[go_sem] theorem t134_by : bytesT Try.prog 134 = some 16 := by kernel_rfl
@[go_sem] theorem t134_ag : aggT Try.prog 134 = some true := by kernel_rfl
@[go_sem] theorem t134_ze : zeroT Try.prog 134 = some [.v (.int .i64 0), .v (.int .i64 0)] := by kernel_rfl
@[go_sem] theorem t134_f0 : fldT Try.prog 134 0 = some (0, 1, 3) := by kernel_rfl
@[go_sem] theorem t134_f1 : fldT Try.prog 134 1 = some (1, 1, 3) := by kernel_rfl
@[go_sem] theorem t134_fo : fldsOf Try.prog 134 = some [(0, 1), (1, 1)] := by kernel_rfl
@[go_sem] theorem t135_sz : szT Try.prog 135 = some 2 := by kernel_rfl
@[go_sem] theorem t135_by : bytesT Try.prog 135 = some 16 := by kernel_rfl
@[go_sem] theorem t135_ag : aggT Try.prog 135 = some true := by kernel_rfl
@[go_sem] theorem t135_ze : zeroT Try.prog 135 = some [.v (.int .i64 0), .v (.int .i64 0)] := by kernel_rfl
@[go_sem] theorem t135_f0 : fldT Try.prog 135 0 = some (0, 1, 3) := by kernel_rfl
@[go_sem] theorem t135_f1 : fldT Try.prog 135 1 = some (1, 1, 3) := by kernel_rfl
@[go_sem] theorem t135_fo : fldsOf Try.prog 135 = some [(0, 1), (1, 1)] := by kernel_rfl
@[go_sem] theorem t135_eg : Try.prog.eqGuardType Try.prog.depth 135 = false := by kernel_rfl
@[go_sem] theorem t135_fl : eqFlds Try.prog 135 = some [(3, 0), (3, 1)] := by kernel_rfl
@[go_sem] theorem t135_eq (neg : Bool) (xs ys : List T) : eqAggT Try.prog neg 135 (.agg xs) (.agg ys) = (match toVs xs, toVs ys with | some us, some ws => (eqL Try.prog 19 [(3, 0), (3, 1)] us ws).map fun b => .v (.bool (if neg = true then !b else b)) | _, _ => none) := eqAgg_t t135_eg t135_ag t135_fl neg xs ys
@[go_sem] theorem t137_sz : szT Try.prog 137 = some 3 := by kernel_rfl
@[go_sem] theorem t137_by : bytesT Try.prog 137 = some 40 := by kernel_rfl
@[go_sem] theorem t137_ag : aggT Try.prog 137 = some true := by kernel_rfl
@[go_sem] theorem t137_ze : zeroT Try.prog 137 = some [.v (.slice none 0 0), .v (.int .i64 0), .v (.bool false)] := by kernel_rfl
@[go_sem] theorem t137_f0 : fldT Try.prog 137 0 = some (0, 1, 31) := by kernel_rfl
@[go_sem] theorem t137_f1 : fldT Try.prog 137 1 = some (1, 1, 3) := by kernel_rfl
@[go_sem] theorem t137_f2 : fldT Try.prog 137 2 = some (2, 1, 4) := by kernel_rfl
@[go_sem] theorem t137_fo : fldsOf Try.prog 137 = some [(0, 1), (1, 1), (2, 1)] := by kernel_rfl
@[go_sem] theorem t138_sz : szT Try.prog 138 = some 3 := by kernel_rfl
@[go_sem] theorem t138_by : bytesT Try.prog 138 = some 40 := by kernel_rfl
@[go_sem] theorem t138_ag : aggT Try.prog 138 = some true := by kernel_rfl
@[go_sem] theorem t138_ze : zeroT Try.prog 138 = some [.v (.slice none 0 0), .v (.int .i64 0), .v (.bool false)] := by kernel_rfl
@[go_sem] theorem t138_f0 : fldT Try.prog 138 0 = some (0, 1, 31) := by kernel_rfl
@[go_sem] theorem t138_f1 : fldT Try.prog 138 1 = some (1, 1, 3) := by kernel_rfl
@[go_sem] theorem t138_f2 : fldT Try.prog 138 2 = some (2, 1, 4) := by kernel_rfl
@[go_sem] theorem t138_fo : fldsOf Try.prog 138 = some [(0, 1), (1, 1), (2, 1)] := by kernel_rfl
@[go_sem] theorem t144_sz : szT Try.prog 144 = some 1 := by kernel_rfl
@[go_sem] theorem t144_by : bytesT Try.prog 144 = some 24 := by kernel_rfl
@[go_sem] theorem t144_ag : aggT Try.prog 144 = some false := by kernel_rfl
@[go_sem] theorem t144_ze : zeroT Try.prog 144 = some [.v (.slice none 0 0)] := by kernel_rfl
@[go_sem] theorem t144_el : elemT Try.prog 144 = some 236 := by kernel_rfl
@[go_sem] theorem t144_un : Try.prog.underlying 144 = some (.slice 236) := by kernel_rfl
@[go_sem] theorem t144_ni : notInt Try.prog 144 = true := by kernel_rfl
@[go_sem] theorem t145_sz : szT Try.prog 145 = some 3 := by kernel_rfl
@[go_sem] theorem t145_by : bytesT Try.prog 145 = some 40 := by kernel_rfl
@[go_sem] theorem t145_ag : aggT Try.prog 145 = some true := by kernel_rfl
@[go_sem] theorem t145_ze : zeroT Try.prog 145 = some [.v (.int .i64 0), .v (.int .i64 0), .v (.slice none 0 0)] := by kernel_rfl
@[go_sem] theorem t145_f0 : fldT Try.prog 145 0 = some (0, 1, 3) := by kernel_rfl
@[go_sem] theorem t145_f1 : fldT Try.prog 145 1 = some (1, 1, 3) := by kernel_rfl
@[go_sem] theorem t145_f2 : fldT Try.prog 145 2 = some (2, 1, 144) := by kernel_rfl
@[go_sem] theorem t145_fo : fldsOf Try.prog 145 = some [(0, 1), (1, 1), (2, 1)] := by kernel_rfl
@[go_sem] theorem t146_sz : szT Try.prog 146 = some 3 := by kernel_rfl
@[go_sem] theorem t146_by : bytesT Try.prog 146 = some 40 := by kernel_rfl
@[go_sem] theorem t146_ag : aggT Try.prog 146 = some true := by kernel_rfl
@[go_sem] theorem t146_ze : zeroT Try.prog 146 = some [.v (.int .i64 0), .v (.int .i64 0), .v (.slice none 0 0)] := by kernel_rfl
@[go_sem] theorem t146_f0 : fldT Try.prog 146 0 = some (0, 1, 3) := by kernel_rfl
@[go_sem] theorem t146_f1 : fldT Try.prog 146 1 = some (1, 1, 3) := by kernel_rfl
@[go_sem] theorem t146_f2 : fldT Try.prog 146 2 = some (2, 1, 144) := by kernel_rfl
@[go_sem] theorem t146_fo : fldsOf Try.prog 146 = some [(0, 1), (1, 1), (2, 1)] := by kernel_rfl
@[go_sem] theorem t147_sz : szT Try.prog 147 = some 10 := by kernel_rfl
@[go_sem] theorem t147_by : bytesT Try.prog 147 = some 144 := by kernel_rfl
@[go_sem] theorem t147_ag : aggT Try.prog 147 = some true := by kernel_rfl
@[go_sem] theorem t147_ze : zeroT Try.prog 147 = some [.v (.int .i64 0), .v (.int .i64 0), .v (.int .i64 0), .v (.int .i64 0), .v (.int .i64 0), .v (.int .i64 0), .v (.slice none 0 0), .v (.slice none 0 0), .v (.slice none 0 0), .v (.slice none 0 0)] := by kernel_rfl
@[go_sem] theorem t147_f0 : fldT Try.prog 147 0 = some (0, 1, 3) := by kernel_rfl
@[go_sem] theorem t147_f1 : fldT Try.prog 147 1 = some (1, 1, 3) := by kernel_rfl
@[go_sem] theorem t147_f2 : fldT Try.prog 147 2 = some (2, 1, 3) := by kernel_rfl
@[go_sem] theorem t147_f3 : fldT Try.prog 147 3 = some (3, 1, 3) := by kernel_rfl
@[go_sem] theorem t147_f4 : fldT Try.prog 147 4 = some (4, 3, 146) := by kernel_rfl
@[go_sem] theorem t147_f5 : fldT Try.prog 147 5 = some (7, 1, 63) := by kernel_rfl
@[go_sem] theorem t147_f6 : fldT Try.prog 147 6 = some (8, 1, 63) := by kernel_rfl
@[go_sem] theorem t147_f7 : fldT Try.prog 147 7 = some (9, 1, 63) := by kernel_rfl
@[go_sem] theorem t147_fo : fldsOf Try.prog 147 = some [(0, 1), (1, 1), (2, 1), (3, 1), (4, 3), (7, 1), (8, 1), (9, 1)] := by kernel_rfl
@[go_sem] theorem t148_sz : szT Try.prog 148 = some 10 := by kernel_rfl
@[go_sem] theorem t148_by : bytesT Try.prog 148 = some 144 := by kernel_rfl
@[go_sem] theorem t148_ag : aggT Try.prog 148 = some true := by kernel_rfl
@[go_sem] theorem t148_ze : zeroT Try.prog 148 = some [.v (.int .i64 0), .v (.int .i64 0), .v (.int .i64 0), .v (.int .i64 0), .v (.int .i64 0), .v (.int .i64 0), .v (.slice none 0 0), .v (.slice none 0 0), .v (.slice none 0 0), .v (.slice none 0 0)] := by kernel_rfl
@[go_sem] theorem t148_f0 : fldT Try.prog 148 0 = some (0, 1, 3) := by kernel_rfl
@[go_sem] theorem t148_f1 : fldT Try.prog 148 1 = some (1, 1, 3) := by kernel_rfl
@[go_sem] theorem t148_f2 : fldT Try.prog 148 2 = some (2, 1, 3) := by kernel_rfl
@[go_sem] theorem t148_f3 : fldT Try.prog 148 3 = some (3, 1, 3) := by kernel_rfl
@[go_sem] theorem t148_f4 : fldT Try.prog 148 4 = some (4, 3, 146) := by kernel_rfl
@[go_sem] theorem t148_f5 : fldT Try.prog 148 5 = some (7, 1, 63) := by kernel_rfl
@[go_sem] theorem t148_f6 : fldT Try.prog 148 6 = some (8, 1, 63) := by kernel_rfl
@[go_sem] theorem t148_f7 : fldT Try.prog 148 7 = some (9, 1, 63) := by kernel_rfl
@[go_sem] theorem t148_fo : fldsOf Try.prog 148 = some [(0, 1), (1, 1), (2, 1), (3, 1), (4, 3), (7, 1), (8, 1), (9, 1)] := by kernel_rfl
@[go_sem] theorem t151_sz : szT Try.prog 151 = some 1 := by kernel_rfl
@[go_sem] theorem t151_by : bytesT Try.prog 151 = some 24 := by kernel_rfl
@[go_sem] theorem t151_ag : aggT Try.prog 151 = some false := by kernel_rfl
@[go_sem] theorem t151_ze : zeroT Try.prog 151 = some [.v (.slice none 0 0)] := by kernel_rfl
@[go_sem] theorem t151_el : elemT Try.prog 151 = some 234 := by kernel_rfl
@[go_sem] theorem t151_un : Try.prog.underlying 151 = some (.slice 234) := by kernel_rfl
@[go_sem] theorem t151_ni : notInt Try.prog 151 = true := by kernel_rfl
@[go_sem] theorem t152_sz : szT Try.prog 152 = some 2 := by kernel_rfl
@[go_sem] theorem t152_by : bytesT Try.prog 152 = some 32 := by kernel_rfl
@[go_sem] theorem t152_ag : aggT Try.prog 152 = some true := by kernel_rfl
@[go_sem] theorem t152_ze : zeroT Try.prog 152 = some [.v (.int .i64 0), .v (.slice none 0 0)] := by kernel_rfl
@[go_sem] theorem t152_f0 : fldT Try.prog 152 0 = some (0, 1, 3) := by kernel_rfl
@[go_sem] theorem t152_f1 : fldT Try.prog 152 1 = some (1, 1, 151) := by kernel_rfl
@[go_sem] theorem t152_fo : fldsOf Try.prog 152 = some [(0, 1), (1, 1)] := by kernel_rfl
@[go_sem] theorem t153_sz : szT Try.prog 153 = some 2 := by kernel_rfl
@[go_sem] theorem t153_by : bytesT Try.prog 153 = some 32 := by kernel_rfl
@[go_sem] theorem t153_ag : aggT Try.prog 153 = some true := by kernel_rfl
@[go_sem] theorem t153_ze : zeroT Try.prog 153 = some [.v (.int .i64 0), .v (.slice none 0 0)] := by kernel_rfl
@[go_sem] theorem t153_f0 : fldT Try.prog 153 0 = some (0, 1, 3) := by kernel_rfl
@[go_sem] theorem t153_f1 : fldT Try.prog 153 1 = some (1, 1, 151) := by kernel_rfl
@[go_sem] theorem t153_fo : fldsOf Try.prog 153 = some [(0, 1), (1, 1)] := by kernel_rfl
@[go_sem] theorem t154_sz : szT Try.prog 154 = some 19 := by kernel_rfl
@[go_sem] theorem t154_by : bytesT Try.prog 154 = some 280 := by kernel_rfl
@[go_sem] theorem t154_ag : aggT Try.prog 154 = some true := by kernel_rfl
@[go_sem] theorem t154_ze : zeroT Try.prog 154 = some [.v (.bool false), .v (.int .i64 0), .v (.slice none 0 0), .v (.int .i64 0), .v (.int .i64 0), .v (.int .i64 0), .v (.int .i64 0), .v (.int .i64 0), .v (.int .i64 0), .v (.slice none 0 0), .v (.slice none 0 0), .v (.slice none 0 0), .v (.slice none 0 0), .v (.int .i64 0), .v (.int .i64 0), .v (.slice none 0 0), .v (.int .i64 0), .v (.slice none 0 0), .v (.slice none 0 0)] := by kernel_rfl
@[go_sem] theorem t154_f0 : fldT Try.prog 154 0 = some (0, 1, 4) := by kernel_rfl
@[go_sem] theorem t154_f1 : fldT Try.prog 154 1 = some (1, 2, 153) := by kernel_rfl
@[go_sem] theorem t154_f2 : fldT Try.prog 154 2 = some (3, 10, 148) := by kernel_rfl
@[go_sem] theorem t154_f3 : fldT Try.prog 154 3 = some (13, 1, 3) := by kernel_rfl
@[go_sem] theorem t154_f4 : fldT Try.prog 154 4 = some (14, 4, 72) := by kernel_rfl
@[go_sem] theorem t154_f5 : fldT Try.prog 154 5 = some (18, 1, 24) := by kernel_rfl
@[go_sem] theorem t154_fo : fldsOf Try.prog 154 = some [(0, 1), (1, 2), (3, 10), (13, 1), (14, 4), (18, 1)] := by kernel_rfl
@[go_sem] theorem t155_sz : szT Try.prog 155 = some 19 := by kernel_rfl
@[go_sem] theorem t155_by : bytesT Try.prog 155 = some 280 := by kernel_rfl
@[go_sem] theorem t155_ag : aggT Try.prog 155 = some true := by kernel_rfl
@[go_sem] theorem t155_ze : zeroT Try.prog 155 = some [.v (.bool false), .v (.int .i64 0), .v (.slice none 0 0), .v (.int .i64 0), .v (.int .i64 0), .v (.int .i64 0), .v (.int .i64 0), .v (.int .i64 0), .v (.int .i64 0), .v (.slice none 0 0), .v (.slice none 0 0), .v (.slice none 0 0), .v (.slice none 0 0), .v (.int .i64 0), .v (.int .i64 0), .v (.slice none 0 0), .v (.int .i64 0), .v (.slice none 0 0), .v (.slice none 0 0)] := by kernel_rfl
@[go_sem] theorem t155_f0 : fldT Try.prog 155 0 = some (0, 1, 4) := by kernel_rfl
@[go_sem] theorem t155_f1 : fldT Try.prog 155 1 = some (1, 2, 153) := by kernel_rfl
@[go_sem] theorem t155_f2 : fldT Try.prog 155 2 = some (3, 10, 148) := by kernel_rfl
@[go_sem] theorem t155_f3 : fldT Try.prog 155 3 = some (13, 1, 3) := by kernel_rfl
@[go_sem] theorem t155_f4 : fldT Try.prog 155 4 = some (14, 4, 72) := by kernel_rfl
@[go_sem] theorem t155_f5 : fldT Try.prog 155 5 = some (18, 1, 24) := by kernel_rfl
@[go_sem] theorem t155_fo : fldsOf Try.prog 155 = some [(0, 1), (1, 2), (3, 10), (13, 1), (14, 4), (18, 1)] := by kernel_rfl
@[go_sem] theorem t179_sz : szT Try.prog 179 = some 3 := by kernel_rfl
@[go_sem] theorem t179_by : bytesT Try.prog 179 = some 40 := by kernel_rfl
@[go_sem] theorem t179_ag : aggT Try.prog 179 = some true := by kernel_rfl
@[go_sem] theorem t179_ze : zeroT Try.prog 179 = some [.v (.slice none 0 0), .v (.int .i64 0), .v (.int .i64 0)] := by kernel_rfl
@[go_sem] theorem t179_f0 : fldT Try.prog 179 0 = some (0, 1, 31) := by kernel_rfl
@[go_sem] theorem t179_f1 : fldT Try.prog 179 1 = some (1, 1, 3) := by kernel_rfl
@[go_sem] theorem t179_f2 : fldT Try.prog 179 2 = some (2, 1, 3) := by kernel_rfl
@[go_sem] theorem t179_fo : fldsOf Try.prog 179 = some [(0, 1), (1, 1), (2, 1)] := by kernel_rfl
@[go_sem] theorem t180_sz : szT Try.prog 180 = some 3 := by kernel_rfl
@[go_sem] theorem t180_by : bytesT Try.prog 180 = some 40 := by kernel_rfl
@[go_sem] theorem t180_ag : aggT Try.prog 180 = some true := by kernel_rfl
@[go_sem] theorem t180_ze : zeroT Try.prog 180 = some [.v (.slice none 0 0), .v (.int .i64 0), .v (.int .i64 0)] := by kernel_rfl
@[go_sem] theorem t180_f0 : fldT Try.prog 180 0 = some (0, 1, 31) := by kernel_rfl
@[go_sem] theorem t180_f1 : fldT Try.prog 180 1 = some (1, 1, 3) := by kernel_rfl
@[go_sem] theorem t180_f2 : fldT Try.prog 180 2 = some (2, 1, 3) := by kernel_rfl
@[go_sem] theorem t180_fo : fldsOf Try.prog 180 = some [(0, 1), (1, 1), (2, 1)] := by kernel_rfl
@[go_sem] theorem t185_sz : szT Try.prog 185 = some 1 := by kernel_rfl
@[go_sem] theorem t185_by : bytesT Try.prog 185 = some 24 := by kernel_rfl
@[go_sem] theorem t185_ag : aggT Try.prog 185 = some false := by kernel_rfl
@[go_sem] theorem t185_ze : zeroT Try.prog 185 = some [.v (.slice none 0 0)] := by kernel_rfl
@[go_sem] theorem t185_el : elemT Try.prog 185 = some 224 := by kernel_rfl
@[go_sem] theorem t185_un : Try.prog.underlying 185 = some (.slice 224) := by kernel_rfl
@[go_sem] theorem t185_ni : notInt Try.prog 185 = true := by kernel_rfl
@[go_sem] theorem t186_sz : szT Try.prog 186 = some 1 := by kernel_rfl
@[go_sem] theorem t186_by : bytesT Try.prog 186 = some 24 := by kernel_rfl
@[go_sem] theorem t186_ag : aggT Try.prog 186 = some false := by kernel_rfl
@[go_sem] theorem t186_ze : zeroT Try.prog 186 = some [.v (.slice none 0 0)] := by kernel_rfl
@[go_sem] theorem t186_el : elemT Try.prog 186 = some 217 := by kernel_rfl
@[go_sem] theorem t186_un : Try.prog.underlying 186 = some (.slice 217) := by kernel_rfl
@[go_sem] theorem t186_ni : notInt Try.prog 186 = true := by kernel_rfl
@[go_sem] theorem t187_sz : szT Try.prog 187 = some 1 := by kernel_rfl
@[go_sem] theorem t187_by : bytesT Try.prog 187 = some 24 := by kernel_rfl
@[go_sem] theorem t187_ag : aggT Try.prog 187 = some false := by kernel_rfl
@[go_sem] theorem t187_ze : zeroT Try.prog 187 = some [.v (.slice none 0 0)] := by kernel_rfl
@[go_sem] theorem t187_el : elemT Try.prog 187 = some 226 := by kernel_rfl
@[go_sem] theorem t187_un : Try.prog.underlying 187 = some (.slice 226) := by kernel_rfl
@[go_sem] theorem t187_ni : notInt Try.prog 187 = true := by kernel_rfl
@[go_sem] theorem t188_sz : szT Try.prog 188 = some 3 := by kernel_rfl
@[go_sem] theorem t188_by : bytesT Try.prog 188 = some 72 := by kernel_rfl
@[go_sem] theorem t188_ag : aggT Try.prog 188 = some true := by kernel_rfl
@[go_sem] theorem t188_ze : zeroT Try.prog 188 = some [.v (.slice none 0 0), .v (.slice none 0 0), .v (.slice none 0 0)] := by kernel_rfl
@[go_sem] theorem t188_f0 : fldT Try.prog 188 0 = some (0, 1, 185) := by kernel_rfl
@[go_sem] theorem t188_f1 : fldT Try.prog 188 1 = some (1, 1, 186) := by kernel_rfl
@[go_sem] theorem t188_f2 : fldT Try.prog 188 2 = some (2, 1, 187) := by kernel_rfl
@[go_sem] theorem t188_fo : fldsOf Try.prog 188 = some [(0, 1), (1, 1), (2, 1)] := by kernel_rfl
@[go_sem] theorem t189_sz : szT Try.prog 189 = some 3 := by kernel_rfl
@[go_sem] theorem t189_by : bytesT Try.prog 189 = some 72 := by kernel_rfl
@[go_sem] theorem t189_ag : aggT Try.prog 189 = some true := by kernel_rfl
@[go_sem] theorem t189_ze : zeroT Try.prog 189 = some [.v (.slice none 0 0), .v (.slice none 0 0), .v (.slice none 0 0)] := by kernel_rfl
@[go_sem] theorem t189_f0 : fldT Try.prog 189 0 = some (0, 1, 185) := by kernel_rfl
@[go_sem] theorem t189_f1 : fldT Try.prog 189 1 = some (1, 1, 186) := by kernel_rfl
@[go_sem] theorem t189_f2 : fldT Try.prog 189 2 = some (2, 1, 187) := by kernel_rfl
@[go_sem] theorem t189_fo : fldsOf Try.prog 189 = some [(0, 1), (1, 1), (2, 1)] := by kernel_rfl
@[go_sem] theorem t196_sz : szT Try.prog 196 = some 2 := by kernel_rfl
@[go_sem] theorem t196_by : bytesT Try.prog 196 = some 24 := by kernel_rfl
@[go_sem] theorem t196_ag : aggT Try.prog 196 = some true := by kernel_rfl
@[go_sem] theorem t196_ze : zeroT Try.prog 196 = some [.v (.int .i64 0), .v (.string ⟨#[]⟩)] := by kernel_rfl
@[go_sem] theorem t196_f0 : fldT Try.prog 196 0 = some (0, 1, 3) := by kernel_rfl
@[go_sem] theorem t196_f1 : fldT Try.prog 196 1 = some (1, 1, 9) := by kernel_rfl
@[go_sem] theorem t196_fo : fldsOf Try.prog 196 = some [(0, 1), (1, 1)] := by kernel_rfl
@[go_sem] theorem t197_sz : szT Try.prog 197 = some 2 := by kernel_rfl
@[go_sem] theorem t197_by : bytesT Try.prog 197 = some 24 := by kernel_rfl
@[go_sem] theorem t197_ag : aggT Try.prog 197 = some true := by kernel_rfl
@[go_sem] theorem t197_ze : zeroT Try.prog 197 = some [.v (.int .i64 0), .v (.string ⟨#[]⟩)] := by kernel_rfl
@[go_sem] theorem t197_f0 : fldT Try.prog 197 0 = some (0, 1, 3) := by kernel_rfl
@[go_sem] theorem t197_f1 : fldT Try.prog 197 1 = some (1, 1, 9) := by kernel_rfl
@[go_sem] theorem t197_fo : fldsOf Try.prog 197 = some [(0, 1), (1, 1)] := by kernel_rfl
@[go_sem] theorem t197_eg : Try.prog.eqGuardType Try.prog.depth 197 = false := by kernel_rfl
@[go_sem] theorem t197_fl : eqFlds Try.prog 197 = some [(3, 0), (9, 1)] := by kernel_rfl
@[go_sem] theorem t197_eq (neg : Bool) (xs ys : List T) : eqAggT Try.prog neg 197 (.agg xs) (.agg ys) = (match toVs xs, toVs ys with | some us, some ws => (eqL Try.prog 19 [(3, 0), (9, 1)] us ws).map fun b => .v (.bool (if neg = true then !b else b)) | _, _ => none) := eqAgg_t t197_eg t197_ag t197_fl neg xs ys
@[go_sem] theorem t201_sz : szT Try.prog 201 = some 5 := by kernel_rfl
@[go_sem] theorem t201_by : bytesT Try.prog 201 = some 64 := by kernel_rfl
@[go_sem] theorem t201_ag : aggT Try.prog 201 = some true := by kernel_rfl
@[go_sem] theorem t201_ze : zeroT Try.prog 201 = some [.v (.int .i64 0), .v (.int .i64 0), .v (.string ⟨#[]⟩), .v (.slice none 0 0), .v (.int .i64 0)] := by kernel_rfl
@[go_sem] theorem t201_f0 : fldT Try.prog 201 0 = some (0, 1, 3) := by kernel_rfl
@[go_sem] theorem t201_f1 : fldT Try.prog 201 1 = some (1, 1, 3) := by kernel_rfl
@[go_sem] theorem t201_f2 : fldT Try.prog 201 2 = some (2, 1, 9) := by kernel_rfl
@[go_sem] theorem t201_f3 : fldT Try.prog 201 3 = some (3, 1, 63) := by kernel_rfl
@[go_sem] theorem t201_f4 : fldT Try.prog 201 4 = some (4, 1, 3) := by kernel_rfl
@[go_sem] theorem t201_fo : fldsOf Try.prog 201 = some [(0, 1), (1, 1), (2, 1), (3, 1), (4, 1)] := by kernel_rfl
@[go_sem] theorem t215_sz : szT Try.prog 215 = some 1 := by kernel_rfl
@[go_sem] theorem t215_by : bytesT Try.prog 215 = some 8 := by kernel_rfl
@[go_sem] theorem t215_ag : aggT Try.prog 215 = some false := by kernel_rfl
@[go_sem] theorem t215_ze : zeroT Try.prog 215 = some [.v (.int .u64 0)] := by kernel_rfl
@[go_sem] theorem t215_un : Try.prog.underlying 215 = some (.int .u64) := by kernel_rfl
@[go_sem] theorem t215_ec (m : Nat) (k : IntKind) (a b : Int) : eqC Try.prog (m + 1) 215 [.int k a] [.int k b] = some (decide (a = b)) := eqC_int t215_un k a b
@[go_sem] theorem t216_sz : szT Try.prog 216 = some 3 := by kernel_rfl
@[go_sem] theorem t216_by : bytesT Try.prog 216 = some 24 := by kernel_rfl
@[go_sem] theorem t216_ag : aggT Try.prog 216 = some true := by kernel_rfl
@[go_sem] theorem t216_ze : zeroT Try.prog 216 = some [.v (.int .i64 0), .v (.int .i64 0), .v (.int .i64 0)] := by kernel_rfl
@[go_sem] theorem t216_f0 : fldT Try.prog 216 0 = some (0, 1, 3) := by kernel_rfl
@[go_sem] theorem t216_f1 : fldT Try.prog 216 1 = some (1, 1, 3) := by kernel_rfl
@[go_sem] theorem t216_f2 : fldT Try.prog 216 2 = some (2, 1, 3) := by kernel_rfl
@[go_sem] theorem t216_fo : fldsOf Try.prog 216 = some [(0, 1), (1, 1), (2, 1)] := by kernel_rfl
@[go_sem] theorem t217_sz : szT Try.prog 217 = some 3 := by kernel_rfl
@[go_sem] theorem t217_by : bytesT Try.prog 217 = some 24 := by kernel_rfl
@[go_sem] theorem t217_ag : aggT Try.prog 217 = some true := by kernel_rfl
@[go_sem] theorem t217_ze : zeroT Try.prog 217 = some [.v (.int .i64 0), .v (.int .i64 0), .v (.int .i64 0)] := by kernel_rfl
@[go_sem] theorem t217_f0 : fldT Try.prog 217 0 = some (0, 1, 3) := by kernel_rfl
@[go_sem] theorem t217_f1 : fldT Try.prog 217 1 = some (1, 1, 3) := by kernel_rfl
@[go_sem] theorem t217_f2 : fldT Try.prog 217 2 = some (2, 1, 3) := by kernel_rfl
@[go_sem] theorem t217_fo : fldsOf Try.prog 217 = some [(0, 1), (1, 1), (2, 1)] := by kernel_rfl
@[go_sem] theorem t217_eg : Try.prog.eqGuardType Try.prog.depth 217 = false := by kernel_rfl
@[go_sem] theorem t217_fl : eqFlds Try.prog 217 = some [(3, 0), (3, 1), (3, 2)] := by kernel_rfl
@[go_sem] theorem t217_eq (neg : Bool) (xs ys : List T) : eqAggT Try.prog neg 217 (.agg xs) (.agg ys) = (match toVs xs, toVs ys with | some us, some ws => (eqL Try.prog 19 [(3, 0), (3, 1), (3, 2)] us ws).map fun b => .v (.bool (if neg = true then !b else b)) | _, _ => none) := eqAgg_t t217_eg t217_ag t217_fl neg xs ys
@[go_sem] theorem t221_sz : szT Try.prog 221 = some 3 := by kernel_rfl
@[go_sem] theorem t221_by : bytesT Try.prog 221 = some 24 := by kernel_rfl
@[go_sem] theorem t221_ag : aggT Try.prog 221 = some true := by kernel_rfl
@[go_sem] theorem t221_ze : zeroT Try.prog 221 = some [.v (.int .i64 0), .v (.int .i64 0), .v (.int .i64 0)] := by kernel_rfl
@[go_sem] theorem t221_f0 : fldT Try.prog 221 0 = some (0, 1, 3) := by kernel_rfl
@[go_sem] theorem t221_f1 : fldT Try.prog 221 1 = some (1, 1, 3) := by kernel_rfl
@[go_sem] theorem t221_f2 : fldT Try.prog 221 2 = some (2, 1, 3) := by kernel_rfl
@[go_sem] theorem t221_fo : fldsOf Try.prog 221 = some [(0, 1), (1, 1), (2, 1)] := by kernel_rfl
@[go_sem] theorem t222_sz : szT Try.prog 222 = some 3 := by kernel_rfl
@[go_sem] theorem t222_by : bytesT Try.prog 222 = some 24 := by kernel_rfl
@[go_sem] theorem t222_ag : aggT Try.prog 222 = some true := by kernel_rfl
@[go_sem] theorem t222_ze : zeroT Try.prog 222 = some [.v (.int .i64 0), .v (.int .i64 0), .v (.int .i64 0)] := by kernel_rfl
@[go_sem] theorem t222_f0 : fldT Try.prog 222 0 = some (0, 1, 3) := by kernel_rfl
@[go_sem] theorem t222_f1 : fldT Try.prog 222 1 = some (1, 1, 3) := by kernel_rfl
@[go_sem] theorem t222_f2 : fldT Try.prog 222 2 = some (2, 1, 3) := by kernel_rfl
@[go_sem] theorem t222_fo : fldsOf Try.prog 222 = some [(0, 1), (1, 1), (2, 1)] := by kernel_rfl
@[go_sem] theorem t222_eg : Try.prog.eqGuardType Try.prog.depth 222 = false := by kernel_rfl
@[go_sem] theorem t222_fl : eqFlds Try.prog 222 = some [(3, 0), (3, 1), (3, 2)] := by kernel_rfl
@[go_sem] theorem t222_eq (neg : Bool) (xs ys : List T) : eqAggT Try.prog neg 222 (.agg xs) (.agg ys) = (match toVs xs, toVs ys with | some us, some ws => (eqL Try.prog 19 [(3, 0), (3, 1), (3, 2)] us ws).map fun b => .v (.bool (if neg = true then !b else b)) | _, _ => none) := eqAgg_t t222_eg t222_ag t222_fl neg xs ys
@[go_sem] theorem t223_sz : szT Try.prog 223 = some 9 := by kernel_rfl
@[go_sem] theorem t223_by : bytesT Try.prog 223 = some 72 := by kernel_rfl
@[go_sem] theorem t223_ag : aggT Try.prog 223 = some true := by kernel_rfl
@[go_sem] theorem t223_ze : zeroT Try.prog 223 = some [.v (.int .i64 0), .v (.int .i64 0), .v (.int .i64 0), .v (.int .i64 0), .v (.int .i64 0), .v (.int .i64 0), .v (.int .i64 0), .v (.int .i64 0), .v (.int .i64 0)] := by kernel_rfl
@[go_sem] theorem t223_f0 : fldT Try.prog 223 0 = some (0, 1, 3) := by kernel_rfl
@[go_sem] theorem t223_f1 : fldT Try.prog 223 1 = some (1, 1, 3) := by kernel_rfl
@[go_sem] theorem t223_f2 : fldT Try.prog 223 2 = some (2, 1, 3) := by kernel_rfl
@[go_sem] theorem t223_f3 : fldT Try.prog 223 3 = some (3, 1, 3) := by kernel_rfl
@[go_sem] theorem t223_f4 : fldT Try.prog 223 4 = some (4, 3, 222) := by kernel_rfl
@[go_sem] theorem t223_f5 : fldT Try.prog 223 5 = some (7, 1, 3) := by kernel_rfl
@[go_sem] theorem t223_f6 : fldT Try.prog 223 6 = some (8, 1, 3) := by kernel_rfl
@[go_sem] theorem t223_fo : fldsOf Try.prog 223 = some [(0, 1), (1, 1), (2, 1), (3, 1), (4, 3), (7, 1), (8, 1)] := by kernel_rfl
@[go_sem] theorem t224_sz : szT Try.prog 224 = some 9 := by kernel_rfl
@[go_sem] theorem t224_by : bytesT Try.prog 224 = some 72 := by kernel_rfl
@[go_sem] theorem t224_ag : aggT Try.prog 224 = some true := by kernel_rfl
@[go_sem] theorem t224_ze : zeroT Try.prog 224 = some [.v (.int .i64 0), .v (.int .i64 0), .v (.int .i64 0), .v (.int .i64 0), .v (.int .i64 0), .v (.int .i64 0), .v (.int .i64 0), .v (.int .i64 0), .v (.int .i64 0)] := by kernel_rfl
@[go_sem] theorem t224_f0 : fldT Try.prog 224 0 = some (0, 1, 3) := by kernel_rfl
@[go_sem] theorem t224_f1 : fldT Try.prog 224 1 = some (1, 1, 3) := by kernel_rfl
@[go_sem] theorem t224_f2 : fldT Try.prog 224 2 = some (2, 1, 3) := by kernel_rfl
@[go_sem] theorem t224_f3 : fldT Try.prog 224 3 = some (3, 1, 3) := by kernel_rfl
@[go_sem] theorem t224_f4 : fldT Try.prog 224 4 = some (4, 3, 222) := by kernel_rfl
@[go_sem] theorem t224_f5 : fldT Try.prog 224 5 = some (7, 1, 3) := by kernel_rfl
@[go_sem] theorem t224_f6 : fldT Try.prog 224 6 = some (8, 1, 3) := by kernel_rfl
@[go_sem] theorem t224_fo : fldsOf Try.prog 224 = some [(0, 1), (1, 1), (2, 1), (3, 1), (4, 3), (7, 1), (8, 1)] := by kernel_rfl
@[go_sem] theorem t225_sz : szT Try.prog 225 = some 2 := by kernel_rfl
@[go_sem] theorem t225_by : bytesT Try.prog 225 = some 16 := by kernel_rfl
@[go_sem] theorem t225_ag : aggT Try.prog 225 = some true := by kernel_rfl
@[go_sem] theorem t225_ze : zeroT Try.prog 225 = some [.v (.int .i64 0), .v (.int .i64 0)] := by kernel_rfl
@[go_sem] theorem t225_f0 : fldT Try.prog 225 0 = some (0, 1, 3) := by kernel_rfl
@[go_sem] theorem t225_f1 : fldT Try.prog 225 1 = some (1, 1, 3) := by kernel_rfl
@[go_sem] theorem t225_fo : fldsOf Try.prog 225 = some [(0, 1), (1, 1)] := by kernel_rfl
@[go_sem] theorem t226_sz : szT Try.prog 226 = some 2 := by kernel_rfl
@[go_sem] theorem t226_by : bytesT Try.prog 226 = some 16 := by kernel_rfl
@[go_sem] theorem t226_ag : aggT Try.prog 226 = some true := by kernel_rfl
@[go_sem] theorem t226_ze : zeroT Try.prog 226 = some [.v (.int .i64 0), .v (.int .i64 0)] := by kernel_rfl
@[go_sem] theorem t226_f0 : fldT Try.prog 226 0 = some (0, 1, 3) := by kernel_rfl
@[go_sem] theorem t226_f1 : fldT Try.prog 226 1 = some (1, 1, 3) := by kernel_rfl
@[go_sem] theorem t226_fo : fldsOf Try.prog 226 = some [(0, 1), (1, 1)] := by kernel_rfl
@[go_sem] theorem t226_eg : Try.prog.eqGuardType Try.prog.depth 226 = false := by kernel_rfl
@[go_sem] theorem t226_fl : eqFlds Try.prog 226 = some [(3, 0), (3, 1)] := by kernel_rfl
@[go_sem] theorem t226_eq (neg : Bool) (xs ys : List T) : eqAggT Try.prog neg 226 (.agg xs) (.agg ys) = (match toVs xs, toVs ys with | some us, some ws => (eqL Try.prog 19 [(3, 0), (3, 1)] us ws).map fun b => .v (.bool (if neg = true then !b else b)) | _, _ => none) := eqAgg_t t226_eg t226_ag t226_fl neg xs ys
@[go_sem] theorem t233_sz : szT Try.prog 233 = some 3 := by kernel_rfl
@[go_sem] theorem t233_by : bytesT Try.prog 233 = some 40 := by kernel_rfl
@[go_sem] theorem t233_ag : aggT Try.prog 233 = some true := by kernel_rfl
@[go_sem] theorem t233_ze : zeroT Try.prog 233 = some [.v (.int .i64 0), .v (.string ⟨#[]⟩), .v (.string ⟨#[]⟩)] := by kernel_rfl
@[go_sem] theorem t233_f0 : fldT Try.prog 233 0 = some (0, 1, 3) := by kernel_rfl
@[go_sem] theorem t233_f1 : fldT Try.prog 233 1 = some (1, 1, 9) := by kernel_rfl
@[go_sem] theorem t233_f2 : fldT Try.prog 233 2 = some (2, 1, 9) := by kernel_rfl
@[go_sem] theorem t233_fo : fldsOf Try.prog 233 = some [(0, 1), (1, 1), (2, 1)] := by kernel_rfl
@[go_sem] theorem t234_sz : szT Try.prog 234 = some 3 := by kernel_rfl
@[go_sem] theorem t234_by : bytesT Try.prog 234 = some 40 := by kernel_rfl
@[go_sem] theorem t234_ag : aggT Try.prog 234 = some true := by kernel_rfl
@[go_sem] theorem t234_ze : zeroT Try.prog 234 = some [.v (.int .i64 0), .v (.string ⟨#[]⟩), .v (.string ⟨#[]⟩)] := by kernel_rfl
@[go_sem] theorem t234_f0 : fldT Try.prog 234 0 = some (0, 1, 3) := by kernel_rfl
@[go_sem] theorem t234_f1 : fldT Try.prog 234 1 = some (1, 1, 9) := by kernel_rfl
@[go_sem] theorem t234_f2 : fldT Try.prog 234 2 = some (2, 1, 9) := by kernel_rfl
@[go_sem] theorem t234_fo : fldsOf Try.prog 234 = some [(0, 1), (1, 1), (2, 1)] := by kernel_rfl
@[go_sem] theorem t234_eg : Try.prog.eqGuardType Try.prog.depth 234 = false := by kernel_rfl
@[go_sem] theorem t234_fl : eqFlds Try.prog 234 = some [(3, 0), (9, 1), (9, 2)] := by kernel_rfl
@[go_sem] theorem t234_eq (neg : Bool) (xs ys : List T) : eqAggT Try.prog neg 234 (.agg xs) (.agg ys) = (match toVs xs, toVs ys with | some us, some ws => (eqL Try.prog 19 [(3, 0), (9, 1), (9, 2)] us ws).map fun b => .v (.bool (if neg = true then !b else b)) | _, _ => none) := eqAgg_t t234_eg t234_ag t234_fl neg xs ys
@[go_sem] theorem t235_sz : szT Try.prog 235 = some 6 := by kernel_rfl
@[go_sem] theorem t235_by : bytesT Try.prog 235 = some 56 := by kernel_rfl
@[go_sem] theorem t235_ag : aggT Try.prog 235 = some true := by kernel_rfl
@[go_sem] theorem t235_ze : zeroT Try.prog 235 = some [.v (.int .i64 0), .v (.int .i64 0), .v (.int .i64 0), .v (.int .i64 0), .v (.int .i64 0), .v (.string ⟨#[]⟩)] := by kernel_rfl
@[go_sem] theorem t235_f0 : fldT Try.prog 235 0 = some (0, 1, 3) := by kernel_rfl
@[go_sem] theorem t235_f1 : fldT Try.prog 235 1 = some (1, 5, 76) := by kernel_rfl
@[go_sem] theorem t235_fo : fldsOf Try.prog 235 = some [(0, 1), (1, 5)] := by kernel_rfl
@[go_sem] theorem t236_sz : szT Try.prog 236 = some 6 := by kernel_rfl
@[go_sem] theorem t236_by : bytesT Try.prog 236 = some 56 := by kernel_rfl
@[go_sem] theorem t236_ag : aggT Try.prog 236 = some true := by kernel_rfl
@[go_sem] theorem t236_ze : zeroT Try.prog 236 = some [.v (.int .i64 0), .v (.int .i64 0), .v (.int .i64 0), .v (.int .i64 0), .v (.int .i64 0), .v (.string ⟨#[]⟩)] := by kernel_rfl
@[go_sem] theorem t236_f0 : fldT Try.prog 236 0 = some (0, 1, 3) := by kernel_rfl
@[go_sem] theorem t236_f1 : fldT Try.prog 236 1 = some (1, 5, 76) := by kernel_rfl
@[go_sem] theorem t236_fo : fldsOf Try.prog 236 = some [(0, 1), (1, 5)] := by kernel_rfl
@[go_sem] theorem t250_sz : szT Try.prog 250 = some 1 := by kernel_rfl
@[go_sem] theorem t250_by : bytesT Try.prog 250 = some 8 := by kernel_rfl
@[go_sem] theorem t250_ag : aggT Try.prog 250 = some false := by kernel_rfl
@[go_sem] theorem t250_ze : zeroT Try.prog 250 = some [.v (.int .i64 0)] := by kernel_rfl
@[go_sem] theorem t250_un : Try.prog.underlying 250 = some (.int .i64) := by kernel_rfl
@[go_sem] theorem t250_ec (m : Nat) (k : IntKind) (a b : Int) : eqC Try.prog (m + 1) 250 [.int k a] [.int k b] = some (decide (a = b)) := eqC_int t250_un k a b
@[go_sem] theorem t258_sz : szT Try.prog 258 = some 1 := by kernel_rfl
@[go_sem] theorem t258_by : bytesT Try.prog 258 = some 4 := by kernel_rfl
@[go_sem] theorem t258_ag : aggT Try.prog 258 = some false := by kernel_rfl
@[go_sem] theorem t258_ze : zeroT Try.prog 258 = some [.v (.int .u32 0)] := by kernel_rfl
@[go_sem] theorem t258_un : Try.prog.underlying 258 = some (.int .u32) := by kernel_rfl
@[go_sem] theorem t258_ec (m : Nat) (k : IntKind) (a b : Int) : eqC Try.prog (m + 1) 258 [.int k a] [.int k b] = some (decide (a = b)) := eqC_int t258_un k a b
@[go_sem] theorem t260_sz : szT Try.prog 260 = some 1 := by kernel_rfl
@[go_sem] theorem t260_by : bytesT Try.prog 260 = some 8 := by kernel_rfl
@[go_sem] theorem t260_ag : aggT Try.prog 260 = some false := by kernel_rfl
@[go_sem] theorem t260_ze : zeroT Try.prog 260 = some [.v (.int .u64 0)] := by kernel_rfl
@[go_sem] theorem t260_un : Try.prog.underlying 260 = some (.int .u64) := by kernel_rfl
@[go_sem] theorem t260_ec (m : Nat) (k : IntKind) (a b : Int) : eqC Try.prog (m + 1) 260 [.int k a] [.int k b] = some (decide (a = b)) := eqC_int t260_un k a b
@[go_sem] theorem t270_sz : szT Try.prog 270 = some 1 := by kernel_rfl
@[go_sem] theorem t270_by : bytesT Try.prog 270 = some 8 := by kernel_rfl
@[go_sem] theorem t270_ag : aggT Try.prog 270 = some false := by kernel_rfl
@[go_sem] theorem t270_ze : zeroT Try.prog 270 = some [.v (.int .u64 0)] := by kernel_rfl
@[go_sem] theorem t270_un : Try.prog.underlying 270 = some (.int .u64) := by kernel_rfl
@[go_sem] theorem t270_ec (m : Nat) (k : IntKind) (a b : Int) : eqC Try.prog (m + 1) 270 [.int k a] [.int k b] = some (decide (a = b)) := eqC_int t270_un k a b
abbrev F.laws_FnExactHeldPut : FuncId := 3
theorem C.laws_FnExactHeldPut : Try.prog.funcs[F.laws_FnExactHeldPut]? = some Try.f3 := Try.func3
abbrev F.laws_FnHeldPut : FuncId := 4
theorem C.laws_FnHeldPut : Try.prog.funcs[F.laws_FnHeldPut]? = some Try.f4 := Try.func4
abbrev F.laws_FnExactHeldNew : FuncId := 5
theorem C.laws_FnExactHeldNew : Try.prog.funcs[F.laws_FnExactHeldNew]? = some Try.f5 := Try.func5
abbrev F.laws_FnTable : FuncId := 6
theorem C.laws_FnTable : Try.prog.funcs[F.laws_FnTable]? = some Try.f6 := Try.func6
abbrev F.laws_FnExactFleetNew : FuncId := 7
theorem C.laws_FnExactFleetNew : Try.prog.funcs[F.laws_FnExactFleetNew]? = some Try.f7 := Try.func7
abbrev F.laws_FnExactRollApply : FuncId := 8
theorem C.laws_FnExactRollApply : Try.prog.funcs[F.laws_FnExactRollApply]? = some Try.f8 := Try.func8
abbrev F.laws_FnRollKeeps : FuncId := 9
theorem C.laws_FnRollKeeps : Try.prog.funcs[F.laws_FnRollKeeps]? = some Try.f9 := Try.func9
abbrev F.laws_FnRollRun : FuncId := 10
theorem C.laws_FnRollRun : Try.prog.funcs[F.laws_FnRollRun]? = some Try.f10 := Try.func10
abbrev F.laws_FnRoll : FuncId := 11
theorem C.laws_FnRoll : Try.prog.funcs[F.laws_FnRoll]? = some Try.f11 := Try.func11
abbrev F.laws_FnExactRollRun : FuncId := 12
theorem C.laws_FnExactRollRun : Try.prog.funcs[F.laws_FnExactRollRun]? = some Try.f12 := Try.func12
abbrev F.laws_szHeldS : FuncId := 13
theorem C.laws_szHeldS : Try.prog.funcs[F.laws_szHeldS]? = some Try.f13 := Try.func13
abbrev F.spec_HeldPut : FuncId := 14
theorem C.spec_HeldPut : Try.prog.funcs[F.spec_HeldPut]? = some Try.f14 := Try.func14
abbrev F.laws_toHeldS : FuncId := 15
theorem C.laws_toHeldS : Try.prog.funcs[F.laws_toHeldS]? = some Try.f15 := Try.func15
abbrev F.impl_HeldPut : FuncId := 16
theorem C.impl_HeldPut : Try.prog.funcs[F.impl_HeldPut]? = some Try.f16 := Try.func16
abbrev F.laws_eqHeldS : FuncId := 17
theorem C.laws_eqHeldS : Try.prog.funcs[F.laws_eqHeldS]? = some Try.f17 := Try.func17
abbrev F.laws_markHeldS : FuncId := 18
theorem C.laws_markHeldS : Try.prog.funcs[F.laws_markHeldS]? = some Try.f18 := Try.func18
abbrev F.laws_heldHeldS : FuncId := 19
theorem C.laws_heldHeldS : Try.prog.funcs[F.laws_heldHeldS]? = some Try.f19 := Try.func19
abbrev F.laws_big : FuncId := 20
theorem C.laws_big : Try.prog.funcs[F.laws_big]? = some Try.f20 := Try.func20
abbrev F.spec_DrawHeldPut : FuncId := 21
theorem C.spec_DrawHeldPut : Try.prog.funcs[F.spec_DrawHeldPut]? = some Try.f21 := Try.func21
abbrev F.spec_HeldsOk : FuncId := 22
theorem C.spec_HeldsOk : Try.prog.funcs[F.spec_HeldsOk]? = some Try.f22 := Try.func22
abbrev F.impl_HeldsOk : FuncId := 23
theorem C.impl_HeldsOk : Try.prog.funcs[F.impl_HeldsOk]? = some Try.f23 := Try.func23
abbrev F.spec_HeldNew : FuncId := 24
theorem C.spec_HeldNew : Try.prog.funcs[F.spec_HeldNew]? = some Try.f24 := Try.func24
abbrev F.impl_HeldNew : FuncId := 25
theorem C.impl_HeldNew : Try.prog.funcs[F.impl_HeldNew]? = some Try.f25 := Try.func25
abbrev F.spec_DrawTablePack : FuncId := 26
theorem C.spec_DrawTablePack : Try.prog.funcs[F.spec_DrawTablePack]? = some Try.f26 := Try.func26
abbrev F.impl_TablePack : FuncId := 27
theorem C.impl_TablePack : Try.prog.funcs[F.impl_TablePack]? = some Try.f27 := Try.func27
abbrev F.spec_TableOk : FuncId := 28
theorem C.spec_TableOk : Try.prog.funcs[F.spec_TableOk]? = some Try.f28 := Try.func28
abbrev F.impl_TableRead : FuncId := 29
theorem C.impl_TableRead : Try.prog.funcs[F.impl_TableRead]? = some Try.f29 := Try.func29
abbrev F.laws_sameShifts : FuncId := 30
theorem C.laws_sameShifts : Try.prog.funcs[F.laws_sameShifts]? = some Try.f30 := Try.func30
abbrev F.spec_DrawTableRead : FuncId := 31
theorem C.spec_DrawTableRead : Try.prog.funcs[F.spec_DrawTableRead]? = some Try.f31 := Try.func31
abbrev F.spec_TableRead : FuncId := 32
theorem C.spec_TableRead : Try.prog.funcs[F.spec_TableRead]? = some Try.f32 := Try.func32
abbrev F.spec_FleetNew : FuncId := 33
theorem C.spec_FleetNew : Try.prog.funcs[F.spec_FleetNew]? = some Try.f33 := Try.func33
abbrev F.impl_FleetNew : FuncId := 34
theorem C.impl_FleetNew : Try.prog.funcs[F.impl_FleetNew]? = some Try.f34 := Try.func34
abbrev F.laws_eqFleet : FuncId := 35
theorem C.laws_eqFleet : Try.prog.funcs[F.laws_eqFleet]? = some Try.f35 := Try.func35
abbrev F.laws_markFleet : FuncId := 36
theorem C.laws_markFleet : Try.prog.funcs[F.laws_markFleet]? = some Try.f36 := Try.func36
abbrev F.laws_heldFleet : FuncId := 37
theorem C.laws_heldFleet : Try.prog.funcs[F.laws_heldFleet]? = some Try.f37 := Try.func37
abbrev F.laws_szRoll : FuncId := 38
theorem C.laws_szRoll : Try.prog.funcs[F.laws_szRoll]? = some Try.f38 := Try.func38
abbrev F.laws_szCmd : FuncId := 39
theorem C.laws_szCmd : Try.prog.funcs[F.laws_szCmd]? = some Try.f39 := Try.func39
abbrev F.spec_RollApply : FuncId := 40
theorem C.spec_RollApply : Try.prog.funcs[F.spec_RollApply]? = some Try.f40 := Try.func40
abbrev F.laws_toRoll : FuncId := 41
theorem C.laws_toRoll : Try.prog.funcs[F.laws_toRoll]? = some Try.f41 := Try.func41
abbrev F.laws_toCmd : FuncId := 42
theorem C.laws_toCmd : Try.prog.funcs[F.laws_toCmd]? = some Try.f42 := Try.func42
abbrev F.impl_RollApply : FuncId := 43
theorem C.impl_RollApply : Try.prog.funcs[F.impl_RollApply]? = some Try.f43 := Try.func43
abbrev F.laws_eqRoll : FuncId := 44
theorem C.laws_eqRoll : Try.prog.funcs[F.laws_eqRoll]? = some Try.f44 := Try.func44
abbrev F.laws_markRoll : FuncId := 45
theorem C.laws_markRoll : Try.prog.funcs[F.laws_markRoll]? = some Try.f45 := Try.func45
abbrev F.laws_heldRoll : FuncId := 46
theorem C.laws_heldRoll : Try.prog.funcs[F.laws_heldRoll]? = some Try.f46 := Try.func46
abbrev F.spec_DrawRollApply : FuncId := 47
theorem C.spec_DrawRollApply : Try.prog.funcs[F.spec_DrawRollApply]? = some Try.f47 := Try.func47
abbrev F.impl_RollFind : FuncId := 48
theorem C.impl_RollFind : Try.prog.funcs[F.impl_RollFind]? = some Try.f48 := Try.func48
abbrev F.laws_sameInts : FuncId := 49
theorem C.laws_sameInts : Try.prog.funcs[F.laws_sameInts]? = some Try.f49 := Try.func49
abbrev F.impl_RollOk : FuncId := 50
theorem C.impl_RollOk : Try.prog.funcs[F.impl_RollOk]? = some Try.f50 := Try.func50
abbrev F.spec_DrawRollRun : FuncId := 51
theorem C.spec_DrawRollRun : Try.prog.funcs[F.spec_DrawRollRun]? = some Try.f51 := Try.func51
abbrev F.impl_RollRun : FuncId := 52
theorem C.impl_RollRun : Try.prog.funcs[F.impl_RollRun]? = some Try.f52 := Try.func52
abbrev F.spec_RollRun : FuncId := 53
theorem C.spec_RollRun : Try.prog.funcs[F.spec_RollRun]? = some Try.f53 := Try.func53
abbrev F.spec_RollOk : FuncId := 54
theorem C.spec_RollOk : Try.prog.funcs[F.spec_RollOk]? = some Try.f54 := Try.func54
abbrev F.laws_at : FuncId := 55
theorem C.laws_at : Try.prog.funcs[F.laws_at]? = some Try.f55 := Try.func55
abbrev F.impl_RollNew : FuncId := 56
theorem C.impl_RollNew : Try.prog.funcs[F.impl_RollNew]? = some Try.f56 := Try.func56
abbrev F.impl_RollLacks : FuncId := 57
theorem C.impl_RollLacks : Try.prog.funcs[F.impl_RollLacks]? = some Try.f57 := Try.func57
abbrev F.laws_within : FuncId := 58
theorem C.laws_within : Try.prog.funcs[F.laws_within]? = some Try.f58 := Try.func58
abbrev F.laws_szCmdS : FuncId := 59
theorem C.laws_szCmdS : Try.prog.funcs[F.laws_szCmdS]? = some Try.f59 := Try.func59
abbrev F.laws_toCmdS : FuncId := 60
theorem C.laws_toCmdS : Try.prog.funcs[F.laws_toCmdS]? = some Try.f60 := Try.func60
abbrev F.laws_eqIntS : FuncId := 61
theorem C.laws_eqIntS : Try.prog.funcs[F.laws_eqIntS]? = some Try.f61 := Try.func61
abbrev F.laws_eqCmdS : FuncId := 62
theorem C.laws_eqCmdS : Try.prog.funcs[F.laws_eqCmdS]? = some Try.f62 := Try.func62
abbrev F.laws_markCmdS : FuncId := 63
theorem C.laws_markCmdS : Try.prog.funcs[F.laws_markCmdS]? = some Try.f63 := Try.func63
abbrev F.laws_markIntS : FuncId := 64
theorem C.laws_markIntS : Try.prog.funcs[F.laws_markIntS]? = some Try.f64 := Try.func64
abbrev F.laws_heldIntS : FuncId := 65
theorem C.laws_heldIntS : Try.prog.funcs[F.laws_heldIntS]? = some Try.f65 := Try.func65
abbrev F.laws_szHeld : FuncId := 66
theorem C.laws_szHeld : Try.prog.funcs[F.laws_szHeld]? = some Try.f66 := Try.func66
abbrev F.spec_l14Copy : FuncId := 67
theorem C.spec_l14Copy : Try.prog.funcs[F.spec_l14Copy]? = some Try.f67 := Try.func67
abbrev F.spec_l14Find : FuncId := 68
theorem C.spec_l14Find : Try.prog.funcs[F.spec_l14Find]? = some Try.f68 := Try.func68
abbrev F.spec_ParcelPut : FuncId := 69
theorem C.spec_ParcelPut : Try.prog.funcs[F.spec_ParcelPut]? = some Try.f69 := Try.func69
abbrev F.laws_toHeld : FuncId := 70
theorem C.laws_toHeld : Try.prog.funcs[F.laws_toHeld]? = some Try.f70 := Try.func70
abbrev F.impl_copyHelds : FuncId := 71
theorem C.impl_copyHelds : Try.prog.funcs[F.impl_copyHelds]? = some Try.f71 := Try.func71
abbrev F.impl_heldAt : FuncId := 72
theorem C.impl_heldAt : Try.prog.funcs[F.impl_heldAt]? = some Try.f72 := Try.func72
abbrev F.impl_ParcelPut : FuncId := 73
theorem C.impl_ParcelPut : Try.prog.funcs[F.impl_ParcelPut]? = some Try.f73 := Try.func73
abbrev F.laws_eqHeld : FuncId := 74
theorem C.laws_eqHeld : Try.prog.funcs[F.laws_eqHeld]? = some Try.f74 := Try.func74
abbrev F.laws_markText : FuncId := 75
theorem C.laws_markText : Try.prog.funcs[F.laws_markText]? = some Try.f75 := Try.func75
abbrev F.laws_markStringS : FuncId := 76
theorem C.laws_markStringS : Try.prog.funcs[F.laws_markStringS]? = some Try.f76 := Try.func76
abbrev F.laws_heldStringS : FuncId := 77
theorem C.laws_heldStringS : Try.prog.funcs[F.laws_heldStringS]? = some Try.f77 := Try.func77
abbrev F.spec_l1New : FuncId := 78
theorem C.spec_l1New : Try.prog.funcs[F.spec_l1New]? = some Try.f78 := Try.func78
abbrev F.spec_l14DrawHelds : FuncId := 79
theorem C.spec_l14DrawHelds : Try.prog.funcs[F.spec_l14DrawHelds]? = some Try.f79 := Try.func79
abbrev F.spec_l14DrawRelease : FuncId := 80
theorem C.spec_l14DrawRelease : Try.prog.funcs[F.spec_l14DrawRelease]? = some Try.f80 := Try.func80
abbrev F.spec_l1Once : FuncId := 81
theorem C.spec_l1Once : Try.prog.funcs[F.spec_l1Once]? = some Try.f81 := Try.func81
abbrev F.spec_l1Below : FuncId := 82
theorem C.spec_l1Below : Try.prog.funcs[F.spec_l1Below]? = some Try.f82 := Try.func82
abbrev F.spec_l1Max : FuncId := 83
theorem C.spec_l1Max : Try.prog.funcs[F.spec_l1Max]? = some Try.f83 := Try.func83
abbrev F.spec_l1Min : FuncId := 84
theorem C.spec_l1Min : Try.prog.funcs[F.spec_l1Min]? = some Try.f84 := Try.func84
abbrev F.spec_l3DrawText : FuncId := 85
theorem C.spec_l3DrawText : Try.prog.funcs[F.spec_l3DrawText]? = some Try.f85 := Try.func85
abbrev F.spec_l1In : FuncId := 86
theorem C.spec_l1In : Try.prog.funcs[F.spec_l1In]? = some Try.f86 := Try.func86
abbrev F.spec_ParcelOk : FuncId := 87
theorem C.spec_ParcelOk : Try.prog.funcs[F.spec_ParcelOk]? = some Try.f87 := Try.func87
abbrev F.impl_isRelease : FuncId := 88
theorem C.impl_isRelease : Try.prog.funcs[F.impl_isRelease]? = some Try.f88 := Try.func88
abbrev F.impl_ParcelOk : FuncId := 89
theorem C.impl_ParcelOk : Try.prog.funcs[F.impl_ParcelOk]? = some Try.f89 := Try.func89
abbrev F.spec_ParcelNew : FuncId := 90
theorem C.spec_ParcelNew : Try.prog.funcs[F.spec_ParcelNew]? = some Try.f90 := Try.func90
abbrev F.spec_l9Copy : FuncId := 91
theorem C.spec_l9Copy : Try.prog.funcs[F.spec_l9Copy]? = some Try.f91 := Try.func91
abbrev F.impl_ParcelNew : FuncId := 92
theorem C.impl_ParcelNew : Try.prog.funcs[F.impl_ParcelNew]? = some Try.f92 := Try.func92
abbrev F.slices_DeleteFunc_Held : FuncId := 93
theorem C.slices_DeleteFunc_Held : Try.prog.funcs[F.slices_DeleteFunc_Held]? = some Try.f93 := Try.func93
abbrev F.impl_HeldNew_1 : FuncId := 94
theorem C.impl_HeldNew_1 : Try.prog.funcs[F.impl_HeldNew_1]? = some Try.f94 := Try.func94
abbrev F.slices_Insert_Held : FuncId := 95
theorem C.slices_Insert_Held : Try.prog.funcs[F.slices_Insert_Held]? = some Try.f95 := Try.func95
abbrev F.spec_l13DrawTable : FuncId := 96
theorem C.spec_l13DrawTable : Try.prog.funcs[F.spec_l13DrawTable]? = some Try.f96 := Try.func96
abbrev F.impl_TableOk : FuncId := 97
theorem C.impl_TableOk : Try.prog.funcs[F.impl_TableOk]? = some Try.f97 := Try.func97
abbrev F.impl_putNums : FuncId := 98
theorem C.impl_putNums : Try.prog.funcs[F.impl_putNums]? = some Try.f98 := Try.func98
abbrev F.impl_reader_num : FuncId := 99
theorem C.impl_reader_num : Try.prog.funcs[F.impl_reader_num]? = some Try.f99 := Try.func99
abbrev F.impl_reader_done : FuncId := 100
theorem C.impl_reader_done : Try.prog.funcs[F.impl_reader_done]? = some Try.f100 := Try.func100
abbrev F.spec_TablePack : FuncId := 101
theorem C.spec_TablePack : Try.prog.funcs[F.spec_TablePack]? = some Try.f101 := Try.func101
abbrev F.spec_l1PickInt : FuncId := 102
theorem C.spec_l1PickInt : Try.prog.funcs[F.spec_l1PickInt]? = some Try.f102 := Try.func102
abbrev F.spec_GetNum : FuncId := 103
theorem C.spec_GetNum : Try.prog.funcs[F.spec_GetNum]? = some Try.f103 := Try.func103
abbrev F.spec_l7Of : FuncId := 104
theorem C.spec_l7Of : Try.prog.funcs[F.spec_l7Of]? = some Try.f104 := Try.func104
abbrev F.spec_RaftNew : FuncId := 105
theorem C.spec_RaftNew : Try.prog.funcs[F.spec_RaftNew]? = some Try.f105 := Try.func105
abbrev F.spec_RollNew : FuncId := 106
theorem C.spec_RollNew : Try.prog.funcs[F.spec_RollNew]? = some Try.f106 := Try.func106
abbrev F.impl_isOf : FuncId := 107
theorem C.impl_isOf : Try.prog.funcs[F.impl_isOf]? = some Try.f107 := Try.func107
abbrev F.impl_RaftNew : FuncId := 108
theorem C.impl_RaftNew : Try.prog.funcs[F.impl_RaftNew]? = some Try.f108 := Try.func108
abbrev F.laws_eqMemberS : FuncId := 109
theorem C.laws_eqMemberS : Try.prog.funcs[F.laws_eqMemberS]? = some Try.f109 := Try.func109
abbrev F.laws_eqFlightS : FuncId := 110
theorem C.laws_eqFlightS : Try.prog.funcs[F.laws_eqFlightS]? = some Try.f110 := Try.func110
abbrev F.laws_markMemberS : FuncId := 111
theorem C.laws_markMemberS : Try.prog.funcs[F.laws_markMemberS]? = some Try.f111 := Try.func111
abbrev F.laws_markFlightS : FuncId := 112
theorem C.laws_markFlightS : Try.prog.funcs[F.laws_markFlightS]? = some Try.f112 := Try.func112
abbrev F.laws_heldMemberS : FuncId := 113
theorem C.laws_heldMemberS : Try.prog.funcs[F.laws_heldMemberS]? = some Try.f113 := Try.func113
abbrev F.laws_heldFlightS : FuncId := 114
theorem C.laws_heldFlightS : Try.prog.funcs[F.laws_heldFlightS]? = some Try.f114 := Try.func114
abbrev F.laws_szRelS : FuncId := 115
theorem C.laws_szRelS : Try.prog.funcs[F.laws_szRelS]? = some Try.f115 := Try.func115
abbrev F.laws_szIntS : FuncId := 116
theorem C.laws_szIntS : Try.prog.funcs[F.laws_szIntS]? = some Try.f116 := Try.func116
abbrev F.spec_CmdOk : FuncId := 117
theorem C.spec_CmdOk : Try.prog.funcs[F.spec_CmdOk]? = some Try.f117 := Try.func117
abbrev F.spec_l7Copy : FuncId := 118
theorem C.spec_l7Copy : Try.prog.funcs[F.spec_l7Copy]? = some Try.f118 := Try.func118
abbrev F.spec_l7Find : FuncId := 119
theorem C.spec_l7Find : Try.prog.funcs[F.spec_l7Find]? = some Try.f119 := Try.func119
abbrev F.spec_l7Put : FuncId := 120
theorem C.spec_l7Put : Try.prog.funcs[F.spec_l7Put]? = some Try.f120 := Try.func120
abbrev F.laws_toRelS : FuncId := 121
theorem C.laws_toRelS : Try.prog.funcs[F.laws_toRelS]? = some Try.f121 := Try.func121
abbrev F.laws_toIntS : FuncId := 122
theorem C.laws_toIntS : Try.prog.funcs[F.laws_toIntS]? = some Try.f122 := Try.func122
abbrev F.impl_CmdOk : FuncId := 123
theorem C.impl_CmdOk : Try.prog.funcs[F.impl_CmdOk]? = some Try.f123 := Try.func123
abbrev F.impl_copyRoll : FuncId := 124
theorem C.impl_copyRoll : Try.prog.funcs[F.impl_copyRoll]? = some Try.f124 := Try.func124
abbrev F.impl_Roll_announce : FuncId := 125
theorem C.impl_Roll_announce : Try.prog.funcs[F.impl_Roll_announce]? = some Try.f125 := Try.func125
abbrev F.impl_Roll_turn : FuncId := 126
theorem C.impl_Roll_turn : Try.prog.funcs[F.impl_Roll_turn]? = some Try.f126 := Try.func126
abbrev F.laws_eqRelS : FuncId := 127
theorem C.laws_eqRelS : Try.prog.funcs[F.laws_eqRelS]? = some Try.f127 := Try.func127
abbrev F.laws_markRelS : FuncId := 128
theorem C.laws_markRelS : Try.prog.funcs[F.laws_markRelS]? = some Try.f128 := Try.func128
abbrev F.laws_heldRelS : FuncId := 129
theorem C.laws_heldRelS : Try.prog.funcs[F.laws_heldRelS]? = some Try.f129 := Try.func129
abbrev F.spec_l7DrawRoll : FuncId := 130
theorem C.spec_l7DrawRoll : Try.prog.funcs[F.spec_l7DrawRoll]? = some Try.f130 := Try.func130
abbrev F.spec_l5DrawCmd : FuncId := 131
theorem C.spec_l5DrawCmd : Try.prog.funcs[F.spec_l5DrawCmd]? = some Try.f131 := Try.func131
abbrev F.spec_l7DrawNext : FuncId := 132
theorem C.spec_l7DrawNext : Try.prog.funcs[F.spec_l7DrawNext]? = some Try.f132 := Try.func132
abbrev F.impl_relAt : FuncId := 133
theorem C.impl_relAt : Try.prog.funcs[F.impl_relAt]? = some Try.f133 := Try.func133
abbrev F.impl_copyRel : FuncId := 134
theorem C.impl_copyRel : Try.prog.funcs[F.impl_copyRel]? = some Try.f134 := Try.func134
abbrev F.impl_isSize : FuncId := 135
theorem C.impl_isSize : Try.prog.funcs[F.impl_isSize]? = some Try.f135 := Try.func135
abbrev F.impl_nodesAscend : FuncId := 136
theorem C.impl_nodesAscend : Try.prog.funcs[F.impl_nodesAscend]? = some Try.f136 := Try.func136
abbrev F.impl_within : FuncId := 137
theorem C.impl_within : Try.prog.funcs[F.impl_within]? = some Try.f137 := Try.func137
abbrev F.slices_Equal_int : FuncId := 138
theorem C.slices_Equal_int : Try.prog.funcs[F.slices_Equal_int]? = some Try.f138 := Try.func138
abbrev F.spec_l7DrawCmds : FuncId := 139
theorem C.spec_l7DrawCmds : Try.prog.funcs[F.spec_l7DrawCmds]? = some Try.f139 := Try.func139
abbrev F.spec_l7Nodes : FuncId := 140
theorem C.spec_l7Nodes : Try.prog.funcs[F.spec_l7Nodes]? = some Try.f140 := Try.func140
abbrev F.slices_Contains_int : FuncId := 141
theorem C.slices_Contains_int : Try.prog.funcs[F.slices_Contains_int]? = some Try.f141 := Try.func141
abbrev F.laws_eqCmd : FuncId := 142
theorem C.laws_eqCmd : Try.prog.funcs[F.laws_eqCmd]? = some Try.f142 := Try.func142
abbrev F.laws_szParcel : FuncId := 143
theorem C.laws_szParcel : Try.prog.funcs[F.laws_szParcel]? = some Try.f143 := Try.func143
abbrev F.spec_l9Long : FuncId := 144
theorem C.spec_l9Long : Try.prog.funcs[F.spec_l9Long]? = some Try.f144 := Try.func144
abbrev F.laws_toParcel : FuncId := 145
theorem C.laws_toParcel : Try.prog.funcs[F.laws_toParcel]? = some Try.f145 := Try.func145
abbrev F.impl_copyParcel : FuncId := 146
theorem C.impl_copyParcel : Try.prog.funcs[F.impl_copyParcel]? = some Try.f146 := Try.func146
abbrev F.slices_IndexFunc_Held : FuncId := 147
theorem C.slices_IndexFunc_Held : Try.prog.funcs[F.slices_IndexFunc_Held]? = some Try.f147 := Try.func147
abbrev F.impl_heldAt_1 : FuncId := 148
theorem C.impl_heldAt_1 : Try.prog.funcs[F.impl_heldAt_1]? = some Try.f148 := Try.func148
abbrev F.impl_partLong : FuncId := 149
theorem C.impl_partLong : Try.prog.funcs[F.impl_partLong]? = some Try.f149 := Try.func149
abbrev F.laws_eqParcel : FuncId := 150
theorem C.laws_eqParcel : Try.prog.funcs[F.laws_eqParcel]? = some Try.f150 := Try.func150
abbrev F.spec_l14DrawRight : FuncId := 151
theorem C.spec_l14DrawRight : Try.prog.funcs[F.spec_l14DrawRight]? = some Try.f151 := Try.func151
abbrev F.spec_l1Byte : FuncId := 152
theorem C.spec_l1Byte : Try.prog.funcs[F.spec_l1Byte]? = some Try.f152 := Try.func152
abbrev F.spec_l1DrawBytes : FuncId := 153
theorem C.spec_l1DrawBytes : Try.prog.funcs[F.spec_l1DrawBytes]? = some Try.f153 := Try.func153
abbrev F.spec_PartsOf : FuncId := 154
theorem C.spec_PartsOf : Try.prog.funcs[F.spec_PartsOf]? = some Try.f154 := Try.func154
abbrev F.impl_PartsOf : FuncId := 155
theorem C.impl_PartsOf : Try.prog.funcs[F.impl_PartsOf]? = some Try.f155 := Try.func155
abbrev F.slices_overlaps_Held : FuncId := 156
theorem C.slices_overlaps_Held : Try.prog.funcs[F.slices_overlaps_Held]? = some Try.f156 := Try.func156
abbrev F.slices_rotateRight_Held : FuncId := 157
theorem C.slices_rotateRight_Held : Try.prog.funcs[F.slices_rotateRight_Held]? = some Try.f157 := Try.func157
abbrev F.spec_ZoneTable : FuncId := 158
theorem C.spec_ZoneTable : Try.prog.funcs[F.spec_ZoneTable]? = some Try.f158 := Try.func158
abbrev F.spec_l13DrawSource : FuncId := 159
theorem C.spec_l13DrawSource : Try.prog.funcs[F.spec_l13DrawSource]? = some Try.f159 := Try.func159
abbrev F.impl_isMinute : FuncId := 160
theorem C.impl_isMinute : Try.prog.funcs[F.impl_isMinute]? = some Try.f160 := Try.func160
abbrev F.impl_isOff : FuncId := 161
theorem C.impl_isOff : Try.prog.funcs[F.impl_isOff]? = some Try.f161 := Try.func161
abbrev F.impl_PutNum : FuncId := 162
theorem C.impl_PutNum : Try.prog.funcs[F.impl_PutNum]? = some Try.f162 := Try.func162
abbrev F.impl_GetNum : FuncId := 163
theorem C.impl_GetNum : Try.prog.funcs[F.impl_GetNum]? = some Try.f163 := Try.func163
abbrev F.spec_PutNum : FuncId := 164
theorem C.spec_PutNum : Try.prog.funcs[F.spec_PutNum]? = some Try.f164 := Try.func164
abbrev F.spec_l6Copy : FuncId := 165
theorem C.spec_l6Copy : Try.prog.funcs[F.spec_l6Copy]? = some Try.f165 := Try.func165
abbrev F.spec_RaftOk : FuncId := 166
theorem C.spec_RaftOk : Try.prog.funcs[F.spec_RaftOk]? = some Try.f166 := Try.func166
abbrev F.impl_copyHard : FuncId := 167
theorem C.impl_copyHard : Try.prog.funcs[F.impl_copyHard]? = some Try.f167 := Try.func167
abbrev F.impl_RaftOk : FuncId := 168
theorem C.impl_RaftOk : Try.prog.funcs[F.impl_RaftOk]? = some Try.f168 := Try.func168
abbrev F.laws_eqMember : FuncId := 169
theorem C.laws_eqMember : Try.prog.funcs[F.laws_eqMember]? = some Try.f169 := Try.func169
abbrev F.laws_eqFlight : FuncId := 170
theorem C.laws_eqFlight : Try.prog.funcs[F.laws_eqFlight]? = some Try.f170 := Try.func170
abbrev F.laws_markFileS : FuncId := 171
theorem C.laws_markFileS : Try.prog.funcs[F.laws_markFileS]? = some Try.f171 := Try.func171
abbrev F.laws_markEntryS : FuncId := 172
theorem C.laws_markEntryS : Try.prog.funcs[F.laws_markEntryS]? = some Try.f172 := Try.func172
abbrev F.laws_heldFileS : FuncId := 173
theorem C.laws_heldFileS : Try.prog.funcs[F.laws_heldFileS]? = some Try.f173 := Try.func173
abbrev F.laws_heldEntryS : FuncId := 174
theorem C.laws_heldEntryS : Try.prog.funcs[F.laws_heldEntryS]? = some Try.f174 := Try.func174
abbrev F.laws_szRel : FuncId := 175
theorem C.laws_szRel : Try.prog.funcs[F.laws_szRel]? = some Try.f175 := Try.func175
abbrev F.laws_toRel : FuncId := 176
theorem C.laws_toRel : Try.prog.funcs[F.laws_toRel]? = some Try.f176 := Try.func176
abbrev F.impl_isNode : FuncId := 177
theorem C.impl_isNode : Try.prog.funcs[F.impl_isNode]? = some Try.f177 := Try.func177
abbrev F.impl_copyInts : FuncId := 178
theorem C.impl_copyInts : Try.prog.funcs[F.impl_copyInts]? = some Try.f178 := Try.func178
abbrev F.slices_Sort_int : FuncId := 179
theorem C.slices_Sort_int : Try.prog.funcs[F.slices_Sort_int]? = some Try.f179 := Try.func179
abbrev F.laws_eqRel : FuncId := 180
theorem C.laws_eqRel : Try.prog.funcs[F.laws_eqRel]? = some Try.f180 := Try.func180
abbrev F.spec_l7DrawRight : FuncId := 181
theorem C.spec_l7DrawRight : Try.prog.funcs[F.spec_l7DrawRight]? = some Try.f181 := Try.func181
abbrev F.spec_l5DrawDigest : FuncId := 182
theorem C.spec_l5DrawDigest : Try.prog.funcs[F.spec_l5DrawDigest]? = some Try.f182 := Try.func182
abbrev F.spec_l5DrawRight : FuncId := 183
theorem C.spec_l5DrawRight : Try.prog.funcs[F.spec_l5DrawRight]? = some Try.f183 := Try.func183
abbrev F.slices_IndexFunc_Rel : FuncId := 184
theorem C.slices_IndexFunc_Rel : Try.prog.funcs[F.slices_IndexFunc_Rel]? = some Try.f184 := Try.func184
abbrev F.impl_relAt_1 : FuncId := 185
theorem C.impl_relAt_1 : Try.prog.funcs[F.impl_relAt_1]? = some Try.f185 := Try.func185
abbrev F.slices_Index_int : FuncId := 186
theorem C.slices_Index_int : Try.prog.funcs[F.slices_Index_int]? = some Try.f186 := Try.func186
abbrev F.laws_szStringS : FuncId := 187
theorem C.laws_szStringS : Try.prog.funcs[F.laws_szStringS]? = some Try.f187 := Try.func187
abbrev F.laws_toStringS : FuncId := 188
theorem C.laws_toStringS : Try.prog.funcs[F.laws_toStringS]? = some Try.f188 := Try.func188
abbrev F.impl_copyTexts : FuncId := 189
theorem C.impl_copyTexts : Try.prog.funcs[F.impl_copyTexts]? = some Try.f189 := Try.func189
abbrev F.laws_eqStringS : FuncId := 190
theorem C.laws_eqStringS : Try.prog.funcs[F.laws_eqStringS]? = some Try.f190 := Try.func190
abbrev F.spec_l14DrawText : FuncId := 191
theorem C.spec_l14DrawText : Try.prog.funcs[F.spec_l14DrawText]? = some Try.f191 := Try.func191
abbrev F.spec_Sha : FuncId := 192
theorem C.spec_Sha : Try.prog.funcs[F.spec_Sha]? = some Try.f192 := Try.func192
abbrev F.spec_PartOf : FuncId := 193
theorem C.spec_PartOf : Try.prog.funcs[F.spec_PartOf]? = some Try.f193 := Try.func193
abbrev F.slices_rotateLeft_Held : FuncId := 194
theorem C.slices_rotateLeft_Held : Try.prog.funcs[F.slices_rotateLeft_Held]? = some Try.f194 := Try.func194
abbrev F.spec_ZoneOf : FuncId := 195
theorem C.spec_ZoneOf : Try.prog.funcs[F.spec_ZoneOf]? = some Try.f195 := Try.func195
abbrev F.spec_l13Walls : FuncId := 196
theorem C.spec_l13Walls : Try.prog.funcs[F.spec_l13Walls]? = some Try.f196 := Try.func196
abbrev F.spec_l12DrawSource : FuncId := 197
theorem C.spec_l12DrawSource : Try.prog.funcs[F.spec_l12DrawSource]? = some Try.f197 := Try.func197
abbrev F.spec_HardOk : FuncId := 198
theorem C.spec_HardOk : Try.prog.funcs[F.spec_HardOk]? = some Try.f198 := Try.func198
abbrev F.spec_l10End : FuncId := 199
theorem C.spec_l10End : Try.prog.funcs[F.spec_l10End]? = some Try.f199 := Try.func199
abbrev F.spec_l7Has : FuncId := 200
theorem C.spec_l7Has : Try.prog.funcs[F.spec_l7Has]? = some Try.f200 := Try.func200
abbrev F.impl_copyLog : FuncId := 201
theorem C.impl_copyLog : Try.prog.funcs[F.impl_copyLog]? = some Try.f201 := Try.func201
abbrev F.impl_HardOk : FuncId := 202
theorem C.impl_HardOk : Try.prog.funcs[F.impl_HardOk]? = some Try.f202 := Try.func202
abbrev F.impl_numbersIn : FuncId := 203
theorem C.impl_numbersIn : Try.prog.funcs[F.impl_numbersIn]? = some Try.f203 := Try.func203
abbrev F.laws_eqDisk : FuncId := 204
theorem C.laws_eqDisk : Try.prog.funcs[F.laws_eqDisk]? = some Try.f204 := Try.func204
abbrev F.laws_eqRaft : FuncId := 205
theorem C.laws_eqRaft : Try.prog.funcs[F.laws_eqRaft]? = some Try.f205 := Try.func205
abbrev F.slices_pdqsortOrdered_int : FuncId := 206
theorem C.slices_pdqsortOrdered_int : Try.prog.funcs[F.slices_pdqsortOrdered_int]? = some Try.f206 := Try.func206
abbrev F.math_bits_Len : FuncId := 207
theorem C.math_bits_Len : Try.prog.funcs[F.math_bits_Len]? = some Try.f207 := Try.func207
abbrev F.spec_l1Pick : FuncId := 208
theorem C.spec_l1Pick : Try.prog.funcs[F.spec_l1Pick]? = some Try.f208 := Try.func208
abbrev F.spec_l2Block : FuncId := 209
theorem C.spec_l2Block : Try.prog.funcs[F.spec_l2Block]? = some Try.f209 := Try.func209
abbrev F.slices_Reverse_Held : FuncId := 210
theorem C.slices_Reverse_Held : Try.prog.funcs[F.slices_Reverse_Held]? = some Try.f210 := Try.func210
abbrev F.spec_SourceOk : FuncId := 211
theorem C.spec_SourceOk : Try.prog.funcs[F.spec_SourceOk]? = some Try.f211 := Try.func211
abbrev F.spec_OnDay : FuncId := 212
theorem C.spec_OnDay : Try.prog.funcs[F.spec_OnDay]? = some Try.f212 := Try.func212
abbrev F.spec_l12DrawRight : FuncId := 213
theorem C.spec_l12DrawRight : Try.prog.funcs[F.spec_l12DrawRight]? = some Try.f213 := Try.func213
abbrev F.spec_l1Whole : FuncId := 214
theorem C.spec_l1Whole : Try.prog.funcs[F.spec_l1Whole]? = some Try.f214 := Try.func214
abbrev F.spec_l6Entry : FuncId := 215
theorem C.spec_l6Entry : Try.prog.funcs[F.spec_l6Entry]? = some Try.f215 := Try.func215
abbrev F.impl_lastTerm : FuncId := 216
theorem C.impl_lastTerm : Try.prog.funcs[F.impl_lastTerm]? = some Try.f216 := Try.func216
abbrev F.impl_isWhole : FuncId := 217
theorem C.impl_isWhole : Try.prog.funcs[F.impl_isWhole]? = some Try.f217 := Try.func217
abbrev F.laws_eqFileS : FuncId := 218
theorem C.laws_eqFileS : Try.prog.funcs[F.laws_eqFileS]? = some Try.f218 := Try.func218
abbrev F.laws_eqHard : FuncId := 219
theorem C.laws_eqHard : Try.prog.funcs[F.laws_eqHard]? = some Try.f219 := Try.func219
abbrev F.slices_insertionSortOrdered_int : FuncId := 220
theorem C.slices_insertionSortOrdered_int : Try.prog.funcs[F.slices_insertionSortOrdered_int]? = some Try.f220 := Try.func220
abbrev F.slices_heapSortOrdered_int : FuncId := 221
theorem C.slices_heapSortOrdered_int : Try.prog.funcs[F.slices_heapSortOrdered_int]? = some Try.f221 := Try.func221
abbrev F.slices_breakPatternsOrdered_int : FuncId := 222
theorem C.slices_breakPatternsOrdered_int : Try.prog.funcs[F.slices_breakPatternsOrdered_int]? = some Try.f222 := Try.func222
abbrev F.slices_choosePivotOrdered_int : FuncId := 223
theorem C.slices_choosePivotOrdered_int : Try.prog.funcs[F.slices_choosePivotOrdered_int]? = some Try.f223 := Try.func223
abbrev F.slices_reverseRangeOrdered_int : FuncId := 224
theorem C.slices_reverseRangeOrdered_int : Try.prog.funcs[F.slices_reverseRangeOrdered_int]? = some Try.f224 := Try.func224
abbrev F.slices_partialInsertionSortOrdered_int : FuncId := 225
theorem C.slices_partialInsertionSortOrdered_int : Try.prog.funcs[F.slices_partialInsertionSortOrdered_int]? = some Try.f225 := Try.func225
abbrev F.cmp_Less_int : FuncId := 226
theorem C.cmp_Less_int : Try.prog.funcs[F.cmp_Less_int]? = some Try.f226 := Try.func226
abbrev F.slices_partitionEqualOrdered_int : FuncId := 227
theorem C.slices_partitionEqualOrdered_int : Try.prog.funcs[F.slices_partitionEqualOrdered_int]? = some Try.f227 := Try.func227
abbrev F.slices_partitionOrdered_int : FuncId := 228
theorem C.slices_partitionOrdered_int : Try.prog.funcs[F.slices_partitionOrdered_int]? = some Try.f228 := Try.func228
abbrev F.math_bits_Len32 : FuncId := 229
theorem C.math_bits_Len32 : Try.prog.funcs[F.math_bits_Len32]? = some Try.f229 := Try.func229
abbrev F.math_bits_Len64 : FuncId := 230
theorem C.math_bits_Len64 : Try.prog.funcs[F.math_bits_Len64]? = some Try.f230 := Try.func230
abbrev F.spec_l2Turn : FuncId := 231
theorem C.spec_l2Turn : Try.prog.funcs[F.spec_l2Turn]? = some Try.f231 := Try.func231
abbrev F.spec_l2Low : FuncId := 232
theorem C.spec_l2Low : Try.prog.funcs[F.spec_l2Low]? = some Try.f232 := Try.func232
abbrev F.spec_l2Keys : FuncId := 233
theorem C.spec_l2Keys : Try.prog.funcs[F.spec_l2Keys]? = some Try.f233 := Try.func233
abbrev F.spec_l12RuleOk : FuncId := 234
theorem C.spec_l12RuleOk : Try.prog.funcs[F.spec_l12RuleOk]? = some Try.f234 := Try.func234
abbrev F.spec_l12Zone : FuncId := 235
theorem C.spec_l12Zone : Try.prog.funcs[F.spec_l12Zone]? = some Try.f235 := Try.func235
abbrev F.spec_l12Link : FuncId := 236
theorem C.spec_l12Link : Try.prog.funcs[F.spec_l12Link]? = some Try.f236 := Try.func236
abbrev F.spec_OnOk : FuncId := 237
theorem C.spec_OnOk : Try.prog.funcs[F.spec_OnOk]? = some Try.f237 := Try.func237
abbrev F.spec_MonthLong : FuncId := 238
theorem C.spec_MonthLong : Try.prog.funcs[F.spec_MonthLong]? = some Try.f238 := Try.func238
abbrev F.spec_DayOf : FuncId := 239
theorem C.spec_DayOf : Try.prog.funcs[F.spec_DayOf]? = some Try.f239 := Try.func239
abbrev F.spec_WeekOf : FuncId := 240
theorem C.spec_WeekOf : Try.prog.funcs[F.spec_WeekOf]? = some Try.f240 := Try.func240
abbrev F.spec_l12DrawRule : FuncId := 241
theorem C.spec_l12DrawRule : Try.prog.funcs[F.spec_l12DrawRule]? = some Try.f241 := Try.func241
abbrev F.laws_eqFile : FuncId := 242
theorem C.laws_eqFile : Try.prog.funcs[F.laws_eqFile]? = some Try.f242 := Try.func242
abbrev F.laws_eqEntryS : FuncId := 243
theorem C.laws_eqEntryS : Try.prog.funcs[F.laws_eqEntryS]? = some Try.f243 := Try.func243
abbrev F.slices_siftDownOrdered_int : FuncId := 244
theorem C.slices_siftDownOrdered_int : Try.prog.funcs[F.slices_siftDownOrdered_int]? = some Try.f244 := Try.func244
abbrev F.slices_nextPowerOfTwo : FuncId := 245
theorem C.slices_nextPowerOfTwo : Try.prog.funcs[F.slices_nextPowerOfTwo]? = some Try.f245 := Try.func245
abbrev F.slices_xorshift_Next : FuncId := 246
theorem C.slices_xorshift_Next : Try.prog.funcs[F.slices_xorshift_Next]? = some Try.f246 := Try.func246
abbrev F.slices_medianAdjacentOrdered_int : FuncId := 247
theorem C.slices_medianAdjacentOrdered_int : Try.prog.funcs[F.slices_medianAdjacentOrdered_int]? = some Try.f247 := Try.func247
abbrev F.slices_medianOrdered_int : FuncId := 248
theorem C.slices_medianOrdered_int : Try.prog.funcs[F.slices_medianOrdered_int]? = some Try.f248 := Try.func248
abbrev F.cmp_isNaN_int : FuncId := 249
theorem C.cmp_isNaN_int : Try.prog.funcs[F.cmp_isNaN_int]? = some Try.f249 := Try.func249
abbrev F.spec_l12Small : FuncId := 250
theorem C.spec_l12Small : Try.prog.funcs[F.spec_l12Small]? = some Try.f250 := Try.func250
abbrev F.spec_l11Year : FuncId := 251
theorem C.spec_l11Year : Try.prog.funcs[F.spec_l11Year]? = some Try.f251 := Try.func251
abbrev F.spec_l12Great : FuncId := 252
theorem C.spec_l12Great : Try.prog.funcs[F.spec_l12Great]? = some Try.f252 := Try.func252
abbrev F.spec_l12HasRule : FuncId := 253
theorem C.spec_l12HasRule : Try.prog.funcs[F.spec_l12HasRule]? = some Try.f253 := Try.func253
abbrev F.spec_l12HasZone : FuncId := 254
theorem C.spec_l12HasZone : Try.prog.funcs[F.spec_l12HasZone]? = some Try.f254 := Try.func254
abbrev F.spec_l11Long : FuncId := 255
theorem C.spec_l11Long : Try.prog.funcs[F.spec_l11Long]? = some Try.f255 := Try.func255
abbrev F.spec_l11Begin : FuncId := 256
theorem C.spec_l11Begin : Try.prog.funcs[F.spec_l11Begin]? = some Try.f256 := Try.func256
abbrev F.laws_eqEntry : FuncId := 257
theorem C.laws_eqEntry : Try.prog.funcs[F.laws_eqEntry]? = some Try.f257 := Try.func257
abbrev F.slices_order2Ordered_int : FuncId := 258
theorem C.slices_order2Ordered_int : Try.prog.funcs[F.slices_order2Ordered_int]? = some Try.f258 := Try.func258
abbrev F.spec_l11Leap : FuncId := 259
theorem C.spec_l11Leap : Try.prog.funcs[F.spec_l11Leap]? = some Try.f259 := Try.func259
abbrev F.internal_abi_Type_Align : FuncId := 272
theorem C.internal_abi_Type_Align : Try.prog.funcs[F.internal_abi_Type_Align]? = some Try.f272 := Try.func272
abbrev F.internal_runtime_maps_unhashableTypeError_Error : FuncId := 273
theorem C.internal_runtime_maps_unhashableTypeError_Error : Try.prog.funcs[F.internal_runtime_maps_unhashableTypeError_Error]? = some Try.f273 := Try.func273
abbrev F.internal_runtime_maps_unhashableTypeError_RuntimeError : FuncId := 274
theorem C.internal_runtime_maps_unhashableTypeError_RuntimeError : Try.prog.funcs[F.internal_runtime_maps_unhashableTypeError_RuntimeError]? = some Try.f274 := Try.func274
abbrev F.internal_abi_Kind_String : FuncId := 275
theorem C.internal_abi_Kind_String : Try.prog.funcs[F.internal_abi_Kind_String]? = some Try.f275 := Try.func275
abbrev Y.int64 : TypeId := 2
abbrev Y.int : TypeId := 3
abbrev Y.bool : TypeId := 4
abbrev Y.uint8 : TypeId := 5
abbrev Y.abi_BoundsErrorCode : TypeId := 6
abbrev Y.runtime_boundsError : TypeId := 8
abbrev Y.string : TypeId := 9
abbrev Y.runtime_errorString : TypeId := 10
abbrev Y.runtime_plainError : TypeId := 11
abbrev Y.uintptr : TypeId := 12
abbrev Y.runtime_errorAddressString : TypeId := 14
abbrev Y.int32 : TypeId := 21
abbrev Y.sl_laws_Held : TypeId := 22
abbrev Y.sl_impl_Held : TypeId := 24
abbrev Y.sl_uint8 : TypeId := 31
abbrev Y.sl_string : TypeId := 36
abbrev Y.impl_Parcel : TypeId := 38
abbrev Y.impl_Held : TypeId := 40
abbrev Y.sl_impl_Shift : TypeId := 43
abbrev Y.impl_Table : TypeId := 45
abbrev Y.sl_impl_Member : TypeId := 54
abbrev Y.sl_impl_Flight : TypeId := 55
abbrev Y.impl_Fleet : TypeId := 57
abbrev Y.sl_laws_Rel : TypeId := 62
abbrev Y.sl_int : TypeId := 63
abbrev Y.laws_Roll : TypeId := 65
abbrev Y.laws_Cmd : TypeId := 67
abbrev Y.sl_impl_Rel : TypeId := 70
abbrev Y.impl_Roll : TypeId := 72
abbrev Y.impl_Cmd : TypeId := 76
abbrev Y.impl_Rel : TypeId := 84
abbrev Y.sl_impl_Cmd : TypeId := 89
abbrev Y.sl_laws_Cmd : TypeId := 98
abbrev Y.laws_Parcel : TypeId := 106
abbrev Y.laws_Held : TypeId := 108
abbrev Y.impl_Shift : TypeId := 135
abbrev Y.impl_reader : TypeId := 138
abbrev Y.sl_impl_Entry : TypeId := 144
abbrev Y.impl_Hard : TypeId := 146
abbrev Y.impl_Raft : TypeId := 148
abbrev Y.sl_impl_File : TypeId := 151
abbrev Y.impl_Disk : TypeId := 153
abbrev Y.impl_Member : TypeId := 155
abbrev Y.spec_l1Cur : TypeId := 180
abbrev Y.sl_impl_Rule : TypeId := 185
abbrev Y.sl_impl_Zone : TypeId := 186
abbrev Y.sl_impl_Link : TypeId := 187
abbrev Y.impl_Source : TypeId := 189
abbrev Y.impl_Flight : TypeId := 197
abbrev Y.laws_Rel : TypeId := 201
abbrev Y.uint : TypeId := 215
abbrev Y.impl_Zone : TypeId := 217
abbrev Y.impl_On : TypeId := 222
abbrev Y.impl_Rule : TypeId := 224
abbrev Y.impl_Link : TypeId := 226
abbrev Y.impl_File : TypeId := 234
abbrev Y.impl_Entry : TypeId := 236
abbrev Y.slices_sortedHint : TypeId := 250
abbrev Y.uint32 : TypeId := 258
abbrev Y.uint64 : TypeId := 260
abbrev Y.slices_xorshift : TypeId := 270
abbrev Y.abi_TFlag : TypeId := 288
abbrev Y.abi_Kind : TypeId := 289
abbrev Y.abi_NameOff : TypeId := 292
abbrev Y.abi_TypeOff : TypeId := 293

end Go.TL
