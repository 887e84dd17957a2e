/- The functions by name, and facts of the type table: printed by a program of this work out of the translation. No conditions. -/
import Derived.Test.YthkahdjgkcccgaaGreatProg
import Derived.Test.YthkahdjgkcccgaaGreatTGo3
import Derived.KernelRfl
namespace Go.TL
set_option linter.unusedSimpArgs false
open Go.Proofs Go.RowKit

@[go_sem] theorem t2_sz : szT Tryz.prog 2 = some 1 := by kernel_rfl
@[go_sem] theorem t2_by : bytesT Tryz.prog 2 = some 8 := by kernel_rfl
@[go_sem] theorem t2_ag : aggT Tryz.prog 2 = some false := by kernel_rfl
@[go_sem] theorem t2_ze : zeroT Tryz.prog 2 = some [.v (.int .i64 0)] := by kernel_rfl
@[go_sem] theorem t2_un : Tryz.prog.underlying 2 = some (.int .i64) := by kernel_rfl
@[go_sem] theorem t2_ec (m : Nat) (k : IntKind) (a b : Int) : eqC Tryz.prog (m + 1) 2 [.int k a] [.int k b] = some (decide (a = b)) := eqC_int t2_un k a b
@[go_sem] theorem t3_sz : szT Tryz.prog 3 = some 1 := by kernel_rfl
@[go_sem] theorem t3_by : bytesT Tryz.prog 3 = some 8 := by kernel_rfl
@[go_sem] theorem t3_ag : aggT Tryz.prog 3 = some false := by kernel_rfl
@[go_sem] theorem t3_ze : zeroT Tryz.prog 3 = some [.v (.int .i64 0)] := by kernel_rfl
@[go_sem] theorem t3_un : Tryz.prog.underlying 3 = some (.int .i64) := by kernel_rfl
@[go_sem] theorem t3_ec (m : Nat) (k : IntKind) (a b : Int) : eqC Tryz.prog (m + 1) 3 [.int k a] [.int k b] = some (decide (a = b)) := eqC_int t3_un k a b
@[go_sem] theorem t4_sz : szT Tryz.prog 4 = some 1 := by kernel_rfl
@[go_sem] theorem t4_by : bytesT Tryz.prog 4 = some 1 := by kernel_rfl
@[go_sem] theorem t4_ag : aggT Tryz.prog 4 = some false := by kernel_rfl
@[go_sem] theorem t4_ze : zeroT Tryz.prog 4 = some [.v (.bool false)] := by kernel_rfl
@[go_sem] theorem t4_un : Tryz.prog.underlying 4 = some .bool := by kernel_rfl
@[go_sem] theorem t4_ec (m : Nat) (a b : Bool) : eqC Tryz.prog (m + 1) 4 [.bool a] [.bool b] = some (a == b) := eqC_bool t4_un a b
@[go_sem] theorem t4_beq (xo yo : Operand) (p q : Prop) [Decidable p] [Decidable q] : binT Tryz.prog .eql 4 xo yo (.v (.bool (decide p))) (.v (.bool (decide q))) = some (.v (.bool (decide (p ↔ q)))) := b_beq xo yo t4_un p q
@[go_sem] theorem t4_bne (xo yo : Operand) (p q : Prop) [Decidable p] [Decidable q] : binT Tryz.prog .neq 4 xo yo (.v (.bool (decide p))) (.v (.bool (decide q))) = some (.v (.bool (decide (¬ (p ↔ q))))) := b_bne xo yo t4_un p q
@[go_sem] theorem t5_sz : szT Tryz.prog 5 = some 1 := by kernel_rfl
@[go_sem] theorem t5_by : bytesT Tryz.prog 5 = some 1 := by kernel_rfl
@[go_sem] theorem t5_ag : aggT Tryz.prog 5 = some false := by kernel_rfl
@[go_sem] theorem t5_ze : zeroT Tryz.prog 5 = some [.v (.int .u8 0)] := by kernel_rfl
@[go_sem] theorem t5_un : Tryz.prog.underlying 5 = some (.int .u8) := by kernel_rfl
@[go_sem] theorem t5_ec (m : Nat) (k : IntKind) (a b : Int) : eqC Tryz.prog (m + 1) 5 [.int k a] [.int k b] = some (decide (a = b)) := eqC_int t5_un k a b
@[go_sem] theorem t9_sz : szT Tryz.prog 9 = some 1 := by kernel_rfl
@[go_sem] theorem t9_by : bytesT Tryz.prog 9 = some 16 := by kernel_rfl
@[go_sem] theorem t9_ag : aggT Tryz.prog 9 = some false := by kernel_rfl
@[go_sem] theorem t9_ze : zeroT Tryz.prog 9 = some [.v (.string ⟨#[]⟩)] := by kernel_rfl
@[go_sem] theorem t9_un : Tryz.prog.underlying 9 = some .string := by kernel_rfl
@[go_sem] theorem t9_ec (m : Nat) (a b : ByteArray) : eqC Tryz.prog (m + 1) 9 [.string a] [.string b] = some (decide (a = b)) := eqC_str t9_un a b
@[go_sem] theorem t9_ni : notInt Tryz.prog 9 = true := by kernel_rfl
@[go_sem] theorem t12_sz : szT Tryz.prog 12 = some 1 := by kernel_rfl
@[go_sem] theorem t12_by : bytesT Tryz.prog 12 = some 8 := by kernel_rfl
@[go_sem] theorem t12_ag : aggT Tryz.prog 12 = some false := by kernel_rfl
@[go_sem] theorem t12_ze : zeroT Tryz.prog 12 = some [.v (.int .u64 0)] := by kernel_rfl
@[go_sem] theorem t12_un : Tryz.prog.underlying 12 = some (.int .u64) := by kernel_rfl
@[go_sem] theorem t12_ec (m : Nat) (k : IntKind) (a b : Int) : eqC Tryz.prog (m + 1) 12 [.int k a] [.int k b] = some (decide (a = b)) := eqC_int t12_un k a b
@[go_sem] theorem t13_sz : szT Tryz.prog 13 = some 2 := by kernel_rfl
@[go_sem] theorem t13_by : bytesT Tryz.prog 13 = some 24 := by kernel_rfl
@[go_sem] theorem t13_ag : aggT Tryz.prog 13 = some true := by kernel_rfl
@[go_sem] theorem t13_ze : zeroT Tryz.prog 13 = some [.v (.string ⟨#[]⟩), .v (.int .u64 0)] := by kernel_rfl
@[go_sem] theorem t13_f0 : fldT Tryz.prog 13 0 = some (0, 1, 9) := by kernel_rfl
@[go_sem] theorem t13_f1 : fldT Tryz.prog 13 1 = some (1, 1, 12) := by kernel_rfl
@[go_sem] theorem t13_fo : fldsOf Tryz.prog 13 = some [(0, 1), (1, 1)] := by kernel_rfl
@[go_sem] theorem t21_sz : szT Tryz.prog 21 = some 1 := by kernel_rfl
@[go_sem] theorem t21_by : bytesT Tryz.prog 21 = some 4 := by kernel_rfl
@[go_sem] theorem t21_ag : aggT Tryz.prog 21 = some false := by kernel_rfl
@[go_sem] theorem t21_ze : zeroT Tryz.prog 21 = some [.v (.int .i32 0)] := by kernel_rfl
@[go_sem] theorem t21_un : Tryz.prog.underlying 21 = some (.int .i32) := by kernel_rfl
@[go_sem] theorem t21_ec (m : Nat) (k : IntKind) (a b : Int) : eqC Tryz.prog (m + 1) 21 [.int k a] [.int k b] = some (decide (a = b)) := eqC_int t21_un k a b
@[go_sem] theorem t22_sz : szT Tryz.prog 22 = some 1 := by kernel_rfl
@[go_sem] theorem t22_by : bytesT Tryz.prog 22 = some 24 := by kernel_rfl
@[go_sem] theorem t22_ag : aggT Tryz.prog 22 = some false := by kernel_rfl
@[go_sem] theorem t22_ze : zeroT Tryz.prog 22 = some [.v (.slice none 0 0)] := by kernel_rfl
@[go_sem] theorem t22_el : elemT Tryz.prog 22 = some 80 := by kernel_rfl
@[go_sem] theorem t22_un : Tryz.prog.underlying 22 = some (.slice 80) := by kernel_rfl
@[go_sem] theorem t22_ni : notInt Tryz.prog 22 = true := by kernel_rfl
@[go_sem] theorem t23_sz : szT Tryz.prog 23 = some 1 := by kernel_rfl
@[go_sem] theorem t23_by : bytesT Tryz.prog 23 = some 24 := by kernel_rfl
@[go_sem] theorem t23_ag : aggT Tryz.prog 23 = some false := by kernel_rfl
@[go_sem] theorem t23_ze : zeroT Tryz.prog 23 = some [.v (.slice none 0 0)] := by kernel_rfl
@[go_sem] theorem t23_el : elemT Tryz.prog 23 = some 83 := by kernel_rfl
@[go_sem] theorem t23_un : Tryz.prog.underlying 23 = some (.slice 83) := by kernel_rfl
@[go_sem] theorem t23_ni : notInt Tryz.prog 23 = true := by kernel_rfl
@[go_sem] theorem t24_sz : szT Tryz.prog 24 = some 3 := by kernel_rfl
@[go_sem] theorem t24_by : bytesT Tryz.prog 24 = some 56 := by kernel_rfl
@[go_sem] theorem t24_ag : aggT Tryz.prog 24 = some true := by kernel_rfl
@[go_sem] theorem t24_ze : zeroT Tryz.prog 24 = some [.v (.int .i64 0), .v (.slice none 0 0), .v (.slice none 0 0)] := by kernel_rfl
@[go_sem] theorem t24_f0 : fldT Tryz.prog 24 0 = some (0, 1, 3) := by kernel_rfl
@[go_sem] theorem t24_f1 : fldT Tryz.prog 24 1 = some (1, 1, 22) := by kernel_rfl
@[go_sem] theorem t24_f2 : fldT Tryz.prog 24 2 = some (2, 1, 23) := by kernel_rfl
@[go_sem] theorem t24_fo : fldsOf Tryz.prog 24 = some [(0, 1), (1, 1), (2, 1)] := by kernel_rfl
@[go_sem] theorem t25_sz : szT Tryz.prog 25 = some 3 := by kernel_rfl
@[go_sem] theorem t25_by : bytesT Tryz.prog 25 = some 56 := by kernel_rfl
@[go_sem] theorem t25_ag : aggT Tryz.prog 25 = some true := by kernel_rfl
@[go_sem] theorem t25_ze : zeroT Tryz.prog 25 = some [.v (.int .i64 0), .v (.slice none 0 0), .v (.slice none 0 0)] := by kernel_rfl
@[go_sem] theorem t25_f0 : fldT Tryz.prog 25 0 = some (0, 1, 3) := by kernel_rfl
@[go_sem] theorem t25_f1 : fldT Tryz.prog 25 1 = some (1, 1, 22) := by kernel_rfl
@[go_sem] theorem t25_f2 : fldT Tryz.prog 25 2 = some (2, 1, 23) := by kernel_rfl
@[go_sem] theorem t25_fo : fldsOf Tryz.prog 25 = some [(0, 1), (1, 1), (2, 1)] := by kernel_rfl
@[go_sem] theorem t28_sz : szT Tryz.prog 28 = some 1 := by kernel_rfl
@[go_sem] theorem t28_by : bytesT Tryz.prog 28 = some 24 := by kernel_rfl
@[go_sem] theorem t28_ag : aggT Tryz.prog 28 = some false := by kernel_rfl
@[go_sem] theorem t28_ze : zeroT Tryz.prog 28 = some [.v (.slice none 0 0)] := by kernel_rfl
@[go_sem] theorem t28_el : elemT Tryz.prog 28 = some 51 := by kernel_rfl
@[go_sem] theorem t28_un : Tryz.prog.underlying 28 = some (.slice 51) := by kernel_rfl
@[go_sem] theorem t28_ni : notInt Tryz.prog 28 = true := by kernel_rfl
@[go_sem] theorem t29_sz : szT Tryz.prog 29 = some 1 := by kernel_rfl
@[go_sem] theorem t29_by : bytesT Tryz.prog 29 = some 24 := by kernel_rfl
@[go_sem] theorem t29_ag : aggT Tryz.prog 29 = some false := by kernel_rfl
@[go_sem] theorem t29_ze : zeroT Tryz.prog 29 = some [.v (.slice none 0 0)] := by kernel_rfl
@[go_sem] theorem t29_el : elemT Tryz.prog 29 = some 87 := by kernel_rfl
@[go_sem] theorem t29_un : Tryz.prog.underlying 29 = some (.slice 87) := by kernel_rfl
@[go_sem] theorem t29_ni : notInt Tryz.prog 29 = true := by kernel_rfl
@[go_sem] theorem t30_sz : szT Tryz.prog 30 = some 3 := by kernel_rfl
@[go_sem] theorem t30_by : bytesT Tryz.prog 30 = some 56 := by kernel_rfl
@[go_sem] theorem t30_ag : aggT Tryz.prog 30 = some true := by kernel_rfl
@[go_sem] theorem t30_ze : zeroT Tryz.prog 30 = some [.v (.int .i64 0), .v (.slice none 0 0), .v (.slice none 0 0)] := by kernel_rfl
@[go_sem] theorem t30_f0 : fldT Tryz.prog 30 0 = some (0, 1, 3) := by kernel_rfl
@[go_sem] theorem t30_f1 : fldT Tryz.prog 30 1 = some (1, 1, 28) := by kernel_rfl
@[go_sem] theorem t30_f2 : fldT Tryz.prog 30 2 = some (2, 1, 29) := by kernel_rfl
@[go_sem] theorem t30_fo : fldsOf Tryz.prog 30 = some [(0, 1), (1, 1), (2, 1)] := by kernel_rfl
@[go_sem] theorem t31_sz : szT Tryz.prog 31 = some 3 := by kernel_rfl
@[go_sem] theorem t31_by : bytesT Tryz.prog 31 = some 56 := by kernel_rfl
@[go_sem] theorem t31_ag : aggT Tryz.prog 31 = some true := by kernel_rfl
@[go_sem] theorem t31_ze : zeroT Tryz.prog 31 = some [.v (.int .i64 0), .v (.slice none 0 0), .v (.slice none 0 0)] := by kernel_rfl
@[go_sem] theorem t31_f0 : fldT Tryz.prog 31 0 = some (0, 1, 3) := by kernel_rfl
@[go_sem] theorem t31_f1 : fldT Tryz.prog 31 1 = some (1, 1, 28) := by kernel_rfl
@[go_sem] theorem t31_f2 : fldT Tryz.prog 31 2 = some (2, 1, 29) := by kernel_rfl
@[go_sem] theorem t31_fo : fldsOf Tryz.prog 31 = some [(0, 1), (1, 1), (2, 1)] := by kernel_rfl
@[go_sem] theorem t37_sz : szT Tryz.prog 37 = some 1 := by kernel_rfl
@[go_sem] theorem t37_by : bytesT Tryz.prog 37 = some 24 := by kernel_rfl
@[go_sem] theorem t37_ag : aggT Tryz.prog 37 = some false := by kernel_rfl
@[go_sem] theorem t37_ze : zeroT Tryz.prog 37 = some [.v (.slice none 0 0)] := by kernel_rfl
@[go_sem] theorem t37_el : elemT Tryz.prog 37 = some 148 := by kernel_rfl
@[go_sem] theorem t37_un : Tryz.prog.underlying 37 = some (.slice 148) := by kernel_rfl
@[go_sem] theorem t37_ni : notInt Tryz.prog 37 = true := by kernel_rfl
@[go_sem] theorem t38_sz : szT Tryz.prog 38 = some 2 := by kernel_rfl
@[go_sem] theorem t38_by : bytesT Tryz.prog 38 = some 32 := by kernel_rfl
@[go_sem] theorem t38_ag : aggT Tryz.prog 38 = some true := by kernel_rfl
@[go_sem] theorem t38_ze : zeroT Tryz.prog 38 = some [.v (.int .i64 0), .v (.slice none 0 0)] := by kernel_rfl
@[go_sem] theorem t38_f0 : fldT Tryz.prog 38 0 = some (0, 1, 3) := by kernel_rfl
@[go_sem] theorem t38_f1 : fldT Tryz.prog 38 1 = some (1, 1, 37) := by kernel_rfl
@[go_sem] theorem t38_fo : fldsOf Tryz.prog 38 = some [(0, 1), (1, 1)] := by kernel_rfl
@[go_sem] theorem t39_sz : szT Tryz.prog 39 = some 2 := by kernel_rfl
@[go_sem] theorem t39_by : bytesT Tryz.prog 39 = some 32 := by kernel_rfl
@[go_sem] theorem t39_ag : aggT Tryz.prog 39 = some true := by kernel_rfl
@[go_sem] theorem t39_ze : zeroT Tryz.prog 39 = some [.v (.int .i64 0), .v (.slice none 0 0)] := by kernel_rfl
@[go_sem] theorem t39_f0 : fldT Tryz.prog 39 0 = some (0, 1, 3) := by kernel_rfl
@[go_sem] theorem t39_f1 : fldT Tryz.prog 39 1 = some (1, 1, 37) := by kernel_rfl
@[go_sem] theorem t39_fo : fldsOf Tryz.prog 39 = some [(0, 1), (1, 1)] := by kernel_rfl
@[go_sem] theorem t40_sz : szT Tryz.prog 40 = some 1 := by kernel_rfl
@[go_sem] theorem t40_by : bytesT Tryz.prog 40 = some 24 := by kernel_rfl
@[go_sem] theorem t40_ag : aggT Tryz.prog 40 = some false := by kernel_rfl
@[go_sem] theorem t40_ze : zeroT Tryz.prog 40 = some [.v (.slice none 0 0)] := by kernel_rfl
@[go_sem] theorem t40_el : elemT Tryz.prog 40 = some 56 := by kernel_rfl
@[go_sem] theorem t40_un : Tryz.prog.underlying 40 = some (.slice 56) := by kernel_rfl
@[go_sem] theorem t40_ni : notInt Tryz.prog 40 = true := by kernel_rfl
@[go_sem] theorem t41_sz : szT Tryz.prog 41 = some 3 := by kernel_rfl
@[go_sem] theorem t41_by : bytesT Tryz.prog 41 = some 40 := by kernel_rfl
@[go_sem] theorem t41_ag : aggT Tryz.prog 41 = some true := by kernel_rfl
@[go_sem] theorem t41_ze : zeroT Tryz.prog 41 = some [.v (.int .i64 0), .v (.int .i64 0), .v (.slice none 0 0)] := by kernel_rfl
@[go_sem] theorem t41_f0 : fldT Tryz.prog 41 0 = some (0, 1, 3) := by kernel_rfl
@[go_sem] theorem t41_f1 : fldT Tryz.prog 41 1 = some (1, 1, 3) := by kernel_rfl
@[go_sem] theorem t41_f2 : fldT Tryz.prog 41 2 = some (2, 1, 40) := by kernel_rfl
@[go_sem] theorem t41_fo : fldsOf Tryz.prog 41 = some [(0, 1), (1, 1), (2, 1)] := by kernel_rfl
@[go_sem] theorem t42_sz : szT Tryz.prog 42 = some 3 := by kernel_rfl
@[go_sem] theorem t42_by : bytesT Tryz.prog 42 = some 40 := by kernel_rfl
@[go_sem] theorem t42_ag : aggT Tryz.prog 42 = some true := by kernel_rfl
@[go_sem] theorem t42_ze : zeroT Tryz.prog 42 = some [.v (.int .i64 0), .v (.int .i64 0), .v (.slice none 0 0)] := by kernel_rfl
@[go_sem] theorem t42_f0 : fldT Tryz.prog 42 0 = some (0, 1, 3) := by kernel_rfl
@[go_sem] theorem t42_f1 : fldT Tryz.prog 42 1 = some (1, 1, 3) := by kernel_rfl
@[go_sem] theorem t42_f2 : fldT Tryz.prog 42 2 = some (2, 1, 40) := by kernel_rfl
@[go_sem] theorem t42_fo : fldsOf Tryz.prog 42 = some [(0, 1), (1, 1), (2, 1)] := by kernel_rfl
@[go_sem] theorem t43_sz : szT Tryz.prog 43 = some 1 := by kernel_rfl
@[go_sem] theorem t43_by : bytesT Tryz.prog 43 = some 24 := by kernel_rfl
@[go_sem] theorem t43_ag : aggT Tryz.prog 43 = some false := by kernel_rfl
@[go_sem] theorem t43_ze : zeroT Tryz.prog 43 = some [.v (.slice none 0 0)] := by kernel_rfl
@[go_sem] theorem t43_el : elemT Tryz.prog 43 = some 3 := by kernel_rfl
@[go_sem] theorem t43_un : Tryz.prog.underlying 43 = some (.slice 3) := by kernel_rfl
@[go_sem] theorem t43_ni : notInt Tryz.prog 43 = true := by kernel_rfl
@[go_sem] theorem t44_sz : szT Tryz.prog 44 = some 10 := by kernel_rfl
@[go_sem] theorem t44_by : bytesT Tryz.prog 44 = some 144 := by kernel_rfl
@[go_sem] theorem t44_ag : aggT Tryz.prog 44 = some true := by kernel_rfl
@[go_sem] theorem t44_ze : zeroT Tryz.prog 44 = some [.v (.int .i64 0), .v (.int .i64 0), .v (.int .i64 0), .v (.int .i64 0), .v (.int .i64 0), .v (.int .i64 0), .v (.slice none 0 0), .v (.slice none 0 0), .v (.slice none 0 0), .v (.slice none 0 0)] := by kernel_rfl
@[go_sem] theorem t44_f0 : fldT Tryz.prog 44 0 = some (0, 1, 3) := by kernel_rfl
@[go_sem] theorem t44_f1 : fldT Tryz.prog 44 1 = some (1, 1, 3) := by kernel_rfl
@[go_sem] theorem t44_f2 : fldT Tryz.prog 44 2 = some (2, 1, 3) := by kernel_rfl
@[go_sem] theorem t44_f3 : fldT Tryz.prog 44 3 = some (3, 1, 3) := by kernel_rfl
@[go_sem] theorem t44_f4 : fldT Tryz.prog 44 4 = some (4, 3, 42) := by kernel_rfl
@[go_sem] theorem t44_f5 : fldT Tryz.prog 44 5 = some (7, 1, 43) := by kernel_rfl
@[go_sem] theorem t44_f6 : fldT Tryz.prog 44 6 = some (8, 1, 43) := by kernel_rfl
@[go_sem] theorem t44_f7 : fldT Tryz.prog 44 7 = some (9, 1, 43) := by kernel_rfl
@[go_sem] theorem t44_fo : fldsOf Tryz.prog 44 = some [(0, 1), (1, 1), (2, 1), (3, 1), (4, 3), (7, 1), (8, 1), (9, 1)] := by kernel_rfl
@[go_sem] theorem t45_sz : szT Tryz.prog 45 = some 10 := by kernel_rfl
@[go_sem] theorem t45_by : bytesT Tryz.prog 45 = some 144 := by kernel_rfl
@[go_sem] theorem t45_ag : aggT Tryz.prog 45 = some true := by kernel_rfl
@[go_sem] theorem t45_ze : zeroT Tryz.prog 45 = some [.v (.int .i64 0), .v (.int .i64 0), .v (.int .i64 0), .v (.int .i64 0), .v (.int .i64 0), .v (.int .i64 0), .v (.slice none 0 0), .v (.slice none 0 0), .v (.slice none 0 0), .v (.slice none 0 0)] := by kernel_rfl
@[go_sem] theorem t45_f0 : fldT Tryz.prog 45 0 = some (0, 1, 3) := by kernel_rfl
@[go_sem] theorem t45_f1 : fldT Tryz.prog 45 1 = some (1, 1, 3) := by kernel_rfl
@[go_sem] theorem t45_f2 : fldT Tryz.prog 45 2 = some (2, 1, 3) := by kernel_rfl
@[go_sem] theorem t45_f3 : fldT Tryz.prog 45 3 = some (3, 1, 3) := by kernel_rfl
@[go_sem] theorem t45_f4 : fldT Tryz.prog 45 4 = some (4, 3, 42) := by kernel_rfl
@[go_sem] theorem t45_f5 : fldT Tryz.prog 45 5 = some (7, 1, 43) := by kernel_rfl
@[go_sem] theorem t45_f6 : fldT Tryz.prog 45 6 = some (8, 1, 43) := by kernel_rfl
@[go_sem] theorem t45_f7 : fldT Tryz.prog 45 7 = some (9, 1, 43) := by kernel_rfl
@[go_sem] theorem t45_fo : fldsOf Tryz.prog 45 = some [(0, 1), (1, 1), (2, 1), (3, 1), (4, 3), (7, 1), (8, 1), (9, 1)] := by kernel_rfl
@[go_sem] theorem t46_sz : szT Tryz.prog 46 = some 1 := by kernel_rfl
@[go_sem] theorem t46_by : bytesT Tryz.prog 46 = some 24 := by kernel_rfl
@[go_sem] theorem t46_ag : aggT Tryz.prog 46 = some false := by kernel_rfl
@[go_sem] theorem t46_ze : zeroT Tryz.prog 46 = some [.v (.slice none 0 0)] := by kernel_rfl
@[go_sem] theorem t46_el : elemT Tryz.prog 46 = some 93 := by kernel_rfl
@[go_sem] theorem t46_un : Tryz.prog.underlying 46 = some (.slice 93) := by kernel_rfl
@[go_sem] theorem t46_ni : notInt Tryz.prog 46 = true := by kernel_rfl
@[go_sem] theorem t47_sz : szT Tryz.prog 47 = some 4 := by kernel_rfl
@[go_sem] theorem t47_by : bytesT Tryz.prog 47 = some 64 := by kernel_rfl
@[go_sem] theorem t47_ag : aggT Tryz.prog 47 = some true := by kernel_rfl
@[go_sem] theorem t47_ze : zeroT Tryz.prog 47 = some [.v (.int .i64 0), .v (.slice none 0 0), .v (.int .i64 0), .v (.slice none 0 0)] := by kernel_rfl
@[go_sem] theorem t47_f0 : fldT Tryz.prog 47 0 = some (0, 1, 3) := by kernel_rfl
@[go_sem] theorem t47_f1 : fldT Tryz.prog 47 1 = some (1, 1, 46) := by kernel_rfl
@[go_sem] theorem t47_f2 : fldT Tryz.prog 47 2 = some (2, 1, 3) := by kernel_rfl
@[go_sem] theorem t47_f3 : fldT Tryz.prog 47 3 = some (3, 1, 43) := by kernel_rfl
@[go_sem] theorem t47_fo : fldsOf Tryz.prog 47 = some [(0, 1), (1, 1), (2, 1), (3, 1)] := by kernel_rfl
@[go_sem] theorem t48_sz : szT Tryz.prog 48 = some 4 := by kernel_rfl
@[go_sem] theorem t48_by : bytesT Tryz.prog 48 = some 64 := by kernel_rfl
@[go_sem] theorem t48_ag : aggT Tryz.prog 48 = some true := by kernel_rfl
@[go_sem] theorem t48_ze : zeroT Tryz.prog 48 = some [.v (.int .i64 0), .v (.slice none 0 0), .v (.int .i64 0), .v (.slice none 0 0)] := by kernel_rfl
@[go_sem] theorem t48_f0 : fldT Tryz.prog 48 0 = some (0, 1, 3) := by kernel_rfl
@[go_sem] theorem t48_f1 : fldT Tryz.prog 48 1 = some (1, 1, 46) := by kernel_rfl
@[go_sem] theorem t48_f2 : fldT Tryz.prog 48 2 = some (2, 1, 3) := by kernel_rfl
@[go_sem] theorem t48_f3 : fldT Tryz.prog 48 3 = some (3, 1, 43) := by kernel_rfl
@[go_sem] theorem t48_fo : fldsOf Tryz.prog 48 = some [(0, 1), (1, 1), (2, 1), (3, 1)] := by kernel_rfl
@[go_sem] theorem t49_sz : szT Tryz.prog 49 = some 1 := by kernel_rfl
@[go_sem] theorem t49_by : bytesT Tryz.prog 49 = some 24 := by kernel_rfl
@[go_sem] theorem t49_ag : aggT Tryz.prog 49 = some false := by kernel_rfl
@[go_sem] theorem t49_ze : zeroT Tryz.prog 49 = some [.v (.slice none 0 0)] := by kernel_rfl
@[go_sem] theorem t49_el : elemT Tryz.prog 49 = some 111 := by kernel_rfl
@[go_sem] theorem t49_un : Tryz.prog.underlying 49 = some (.slice 111) := by kernel_rfl
@[go_sem] theorem t49_ni : notInt Tryz.prog 49 = true := by kernel_rfl
@[go_sem] theorem t50_sz : szT Tryz.prog 50 = some 19 := by kernel_rfl
@[go_sem] theorem t50_by : bytesT Tryz.prog 50 = some 280 := by kernel_rfl
@[go_sem] theorem t50_ag : aggT Tryz.prog 50 = some true := by kernel_rfl
@[go_sem] theorem t50_ze : zeroT Tryz.prog 50 = some [.v (.bool false), .v (.int .i64 0), .v (.slice none 0 0), .v (.int .i64 0), .v (.int .i64 0), .v (.int .i64 0), .v (.int .i64 0), .v (.int .i64 0), .v (.int .i64 0), .v (.slice none 0 0), .v (.slice none 0 0), .v (.slice none 0 0), .v (.slice none 0 0), .v (.int .i64 0), .v (.int .i64 0), .v (.slice none 0 0), .v (.int .i64 0), .v (.slice none 0 0), .v (.slice none 0 0)] := by kernel_rfl
@[go_sem] theorem t50_f0 : fldT Tryz.prog 50 0 = some (0, 1, 4) := by kernel_rfl
@[go_sem] theorem t50_f1 : fldT Tryz.prog 50 1 = some (1, 2, 39) := by kernel_rfl
@[go_sem] theorem t50_f2 : fldT Tryz.prog 50 2 = some (3, 10, 45) := by kernel_rfl
@[go_sem] theorem t50_f3 : fldT Tryz.prog 50 3 = some (13, 1, 3) := by kernel_rfl
@[go_sem] theorem t50_f4 : fldT Tryz.prog 50 4 = some (14, 4, 48) := by kernel_rfl
@[go_sem] theorem t50_f5 : fldT Tryz.prog 50 5 = some (18, 1, 49) := by kernel_rfl
@[go_sem] theorem t50_fo : fldsOf Tryz.prog 50 = some [(0, 1), (1, 2), (3, 10), (13, 1), (14, 4), (18, 1)] := by kernel_rfl
@[go_sem] theorem t51_sz : szT Tryz.prog 51 = some 19 := by kernel_rfl
@[go_sem] theorem t51_by : bytesT Tryz.prog 51 = some 280 := by kernel_rfl
@[go_sem] theorem t51_ag : aggT Tryz.prog 51 = some true := by kernel_rfl
@[go_sem] theorem t51_ze : zeroT Tryz.prog 51 = some [.v (.bool false), .v (.int .i64 0), .v (.slice none 0 0), .v (.int .i64 0), .v (.int .i64 0), .v (.int .i64 0), .v (.int .i64 0), .v (.int .i64 0), .v (.int .i64 0), .v (.slice none 0 0), .v (.slice none 0 0), .v (.slice none 0 0), .v (.slice none 0 0), .v (.int .i64 0), .v (.int .i64 0), .v (.slice none 0 0), .v (.int .i64 0), .v (.slice none 0 0), .v (.slice none 0 0)] := by kernel_rfl
@[go_sem] theorem t51_f0 : fldT Tryz.prog 51 0 = some (0, 1, 4) := by kernel_rfl
@[go_sem] theorem t51_f1 : fldT Tryz.prog 51 1 = some (1, 2, 39) := by kernel_rfl
@[go_sem] theorem t51_f2 : fldT Tryz.prog 51 2 = some (3, 10, 45) := by kernel_rfl
@[go_sem] theorem t51_f3 : fldT Tryz.prog 51 3 = some (13, 1, 3) := by kernel_rfl
@[go_sem] theorem t51_f4 : fldT Tryz.prog 51 4 = some (14, 4, 48) := by kernel_rfl
@[go_sem] theorem t51_f5 : fldT Tryz.prog 51 5 = some (18, 1, 49) := by kernel_rfl
@[go_sem] theorem t51_fo : fldsOf Tryz.prog 51 = some [(0, 1), (1, 2), (3, 10), (13, 1), (14, 4), (18, 1)] := by kernel_rfl
@[go_sem] theorem t52_sz : szT Tryz.prog 52 = some 1 := by kernel_rfl
@[go_sem] theorem t52_by : bytesT Tryz.prog 52 = some 24 := by kernel_rfl
@[go_sem] theorem t52_ag : aggT Tryz.prog 52 = some false := by kernel_rfl
@[go_sem] theorem t52_ze : zeroT Tryz.prog 52 = some [.v (.slice none 0 0)] := by kernel_rfl
@[go_sem] theorem t52_el : elemT Tryz.prog 52 = some 54 := by kernel_rfl
@[go_sem] theorem t52_un : Tryz.prog.underlying 52 = some (.slice 54) := by kernel_rfl
@[go_sem] theorem t52_ni : notInt Tryz.prog 52 = true := by kernel_rfl
@[go_sem] theorem t53_sz : szT Tryz.prog 53 = some 5 := by kernel_rfl
@[go_sem] theorem t53_by : bytesT Tryz.prog 53 = some 48 := by kernel_rfl
@[go_sem] theorem t53_ag : aggT Tryz.prog 53 = some true := by kernel_rfl
@[go_sem] theorem t53_ze : zeroT Tryz.prog 53 = some [.v (.int .i64 0), .v (.int .i64 0), .v (.int .i64 0), .v (.int .i64 0), .v (.string ⟨#[]⟩)] := by kernel_rfl
@[go_sem] theorem t53_f0 : fldT Tryz.prog 53 0 = some (0, 1, 3) := by kernel_rfl
@[go_sem] theorem t53_f1 : fldT Tryz.prog 53 1 = some (1, 1, 3) := by kernel_rfl
@[go_sem] theorem t53_f2 : fldT Tryz.prog 53 2 = some (2, 1, 3) := by kernel_rfl
@[go_sem] theorem t53_f3 : fldT Tryz.prog 53 3 = some (3, 1, 3) := by kernel_rfl
@[go_sem] theorem t53_f4 : fldT Tryz.prog 53 4 = some (4, 1, 9) := by kernel_rfl
@[go_sem] theorem t53_fo : fldsOf Tryz.prog 53 = some [(0, 1), (1, 1), (2, 1), (3, 1), (4, 1)] := by kernel_rfl
@[go_sem] theorem t54_sz : szT Tryz.prog 54 = some 5 := by kernel_rfl
@[go_sem] theorem t54_by : bytesT Tryz.prog 54 = some 48 := by kernel_rfl
@[go_sem] theorem t54_ag : aggT Tryz.prog 54 = some true := by kernel_rfl
@[go_sem] theorem t54_ze : zeroT Tryz.prog 54 = some [.v (.int .i64 0), .v (.int .i64 0), .v (.int .i64 0), .v (.int .i64 0), .v (.string ⟨#[]⟩)] := by kernel_rfl
@[go_sem] theorem t54_f0 : fldT Tryz.prog 54 0 = some (0, 1, 3) := by kernel_rfl
@[go_sem] theorem t54_f1 : fldT Tryz.prog 54 1 = some (1, 1, 3) := by kernel_rfl
@[go_sem] theorem t54_f2 : fldT Tryz.prog 54 2 = some (2, 1, 3) := by kernel_rfl
@[go_sem] theorem t54_f3 : fldT Tryz.prog 54 3 = some (3, 1, 3) := by kernel_rfl
@[go_sem] theorem t54_f4 : fldT Tryz.prog 54 4 = some (4, 1, 9) := by kernel_rfl
@[go_sem] theorem t54_fo : fldsOf Tryz.prog 54 = some [(0, 1), (1, 1), (2, 1), (3, 1), (4, 1)] := by kernel_rfl
@[go_sem] theorem t54_eg : Tryz.prog.eqGuardType Tryz.prog.depth 54 = false := by kernel_rfl
@[go_sem] theorem t54_fl : eqFlds Tryz.prog 54 = some [(3, 0), (3, 1), (3, 2), (3, 3), (9, 4)] := by kernel_rfl
@[go_sem] theorem t54_eq (neg : Bool) (xs ys : List T) : eqAggT Tryz.prog neg 54 (.agg xs) (.agg ys) = (match toVs xs, toVs ys with | some us, some ws => (eqL Tryz.prog 19 [(3, 0), (3, 1), (3, 2), (3, 3), (9, 4)] us ws).map fun b => .v (.bool (if neg = true then !b else b)) | _, _ => none) := eqAgg_t t54_eg t54_ag t54_fl neg xs ys
@[go_sem] theorem t55_sz : szT Tryz.prog 55 = some 6 := by kernel_rfl
@[go_sem] theorem t55_by : bytesT Tryz.prog 55 = some 56 := by kernel_rfl
@[go_sem] theorem t55_ag : aggT Tryz.prog 55 = some true := by kernel_rfl
@[go_sem] theorem t55_ze : zeroT Tryz.prog 55 = some [.v (.int .i64 0), .v (.int .i64 0), .v (.int .i64 0), .v (.int .i64 0), .v (.int .i64 0), .v (.string ⟨#[]⟩)] := by kernel_rfl
@[go_sem] theorem t55_f0 : fldT Tryz.prog 55 0 = some (0, 1, 3) := by kernel_rfl
@[go_sem] theorem t55_f1 : fldT Tryz.prog 55 1 = some (1, 5, 54) := by kernel_rfl
@[go_sem] theorem t55_fo : fldsOf Tryz.prog 55 = some [(0, 1), (1, 5)] := by kernel_rfl
@[go_sem] theorem t56_sz : szT Tryz.prog 56 = some 6 := by kernel_rfl
@[go_sem] theorem t56_by : bytesT Tryz.prog 56 = some 56 := by kernel_rfl
@[go_sem] theorem t56_ag : aggT Tryz.prog 56 = some true := by kernel_rfl
@[go_sem] theorem t56_ze : zeroT Tryz.prog 56 = some [.v (.int .i64 0), .v (.int .i64 0), .v (.int .i64 0), .v (.int .i64 0), .v (.int .i64 0), .v (.string ⟨#[]⟩)] := by kernel_rfl
@[go_sem] theorem t56_f0 : fldT Tryz.prog 56 0 = some (0, 1, 3) := by kernel_rfl
@[go_sem] theorem t56_f1 : fldT Tryz.prog 56 1 = some (1, 5, 54) := by kernel_rfl
@[go_sem] theorem t56_fo : fldsOf Tryz.prog 56 = some [(0, 1), (1, 5)] := by kernel_rfl
@[go_sem] theorem t67_sz : szT Tryz.prog 67 = some 1 := by kernel_rfl
@[go_sem] theorem t67_by : bytesT Tryz.prog 67 = some 24 := by kernel_rfl
@[go_sem] theorem t67_ag : aggT Tryz.prog 67 = some false := by kernel_rfl
@[go_sem] theorem t67_ze : zeroT Tryz.prog 67 = some [.v (.slice none 0 0)] := by kernel_rfl
@[go_sem] theorem t67_el : elemT Tryz.prog 67 = some 169 := by kernel_rfl
@[go_sem] theorem t67_un : Tryz.prog.underlying 67 = some (.slice 169) := by kernel_rfl
@[go_sem] theorem t67_ni : notInt Tryz.prog 67 = true := by kernel_rfl
@[go_sem] theorem t68_sz : szT Tryz.prog 68 = some 2 := by kernel_rfl
@[go_sem] theorem t68_by : bytesT Tryz.prog 68 = some 32 := by kernel_rfl
@[go_sem] theorem t68_ag : aggT Tryz.prog 68 = some true := by kernel_rfl
@[go_sem] theorem t68_ze : zeroT Tryz.prog 68 = some [.v (.int .i64 0), .v (.slice none 0 0)] := by kernel_rfl
@[go_sem] theorem t68_f0 : fldT Tryz.prog 68 0 = some (0, 1, 3) := by kernel_rfl
@[go_sem] theorem t68_f1 : fldT Tryz.prog 68 1 = some (1, 1, 67) := by kernel_rfl
@[go_sem] theorem t68_fo : fldsOf Tryz.prog 68 = some [(0, 1), (1, 1)] := by kernel_rfl
@[go_sem] theorem t69_sz : szT Tryz.prog 69 = some 2 := by kernel_rfl
@[go_sem] theorem t69_by : bytesT Tryz.prog 69 = some 32 := by kernel_rfl
@[go_sem] theorem t69_ag : aggT Tryz.prog 69 = some true := by kernel_rfl
@[go_sem] theorem t69_ze : zeroT Tryz.prog 69 = some [.v (.int .i64 0), .v (.slice none 0 0)] := by kernel_rfl
@[go_sem] theorem t69_f0 : fldT Tryz.prog 69 0 = some (0, 1, 3) := by kernel_rfl
@[go_sem] theorem t69_f1 : fldT Tryz.prog 69 1 = some (1, 1, 67) := by kernel_rfl
@[go_sem] theorem t69_fo : fldsOf Tryz.prog 69 = some [(0, 1), (1, 1)] := by kernel_rfl
@[go_sem] theorem t70_sz : szT Tryz.prog 70 = some 1 := by kernel_rfl
@[go_sem] theorem t70_by : bytesT Tryz.prog 70 = some 24 := by kernel_rfl
@[go_sem] theorem t70_ag : aggT Tryz.prog 70 = some false := by kernel_rfl
@[go_sem] theorem t70_ze : zeroT Tryz.prog 70 = some [.v (.slice none 0 0)] := by kernel_rfl
@[go_sem] theorem t70_el : elemT Tryz.prog 70 = some 194 := by kernel_rfl
@[go_sem] theorem t70_un : Tryz.prog.underlying 70 = some (.slice 194) := by kernel_rfl
@[go_sem] theorem t70_ni : notInt Tryz.prog 70 = true := by kernel_rfl
@[go_sem] theorem t71_sz : szT Tryz.prog 71 = some 3 := by kernel_rfl
@[go_sem] theorem t71_by : bytesT Tryz.prog 71 = some 40 := by kernel_rfl
@[go_sem] theorem t71_ag : aggT Tryz.prog 71 = some true := by kernel_rfl
@[go_sem] theorem t71_ze : zeroT Tryz.prog 71 = some [.v (.int .i64 0), .v (.int .i64 0), .v (.slice none 0 0)] := by kernel_rfl
@[go_sem] theorem t71_f0 : fldT Tryz.prog 71 0 = some (0, 1, 3) := by kernel_rfl
@[go_sem] theorem t71_f1 : fldT Tryz.prog 71 1 = some (1, 1, 3) := by kernel_rfl
@[go_sem] theorem t71_f2 : fldT Tryz.prog 71 2 = some (2, 1, 70) := by kernel_rfl
@[go_sem] theorem t71_fo : fldsOf Tryz.prog 71 = some [(0, 1), (1, 1), (2, 1)] := by kernel_rfl
@[go_sem] theorem t72_sz : szT Tryz.prog 72 = some 3 := by kernel_rfl
@[go_sem] theorem t72_by : bytesT Tryz.prog 72 = some 40 := by kernel_rfl
@[go_sem] theorem t72_ag : aggT Tryz.prog 72 = some true := by kernel_rfl
@[go_sem] theorem t72_ze : zeroT Tryz.prog 72 = some [.v (.int .i64 0), .v (.int .i64 0), .v (.slice none 0 0)] := by kernel_rfl
@[go_sem] theorem t72_f0 : fldT Tryz.prog 72 0 = some (0, 1, 3) := by kernel_rfl
@[go_sem] theorem t72_f1 : fldT Tryz.prog 72 1 = some (1, 1, 3) := by kernel_rfl
@[go_sem] theorem t72_f2 : fldT Tryz.prog 72 2 = some (2, 1, 70) := by kernel_rfl
@[go_sem] theorem t72_fo : fldsOf Tryz.prog 72 = some [(0, 1), (1, 1), (2, 1)] := by kernel_rfl
@[go_sem] theorem t73_sz : szT Tryz.prog 73 = some 10 := by kernel_rfl
@[go_sem] theorem t73_by : bytesT Tryz.prog 73 = some 144 := by kernel_rfl
@[go_sem] theorem t73_ag : aggT Tryz.prog 73 = some true := by kernel_rfl
@[go_sem] theorem t73_ze : zeroT Tryz.prog 73 = some [.v (.int .i64 0), .v (.int .i64 0), .v (.int .i64 0), .v (.int .i64 0), .v (.int .i64 0), .v (.int .i64 0), .v (.slice none 0 0), .v (.slice none 0 0), .v (.slice none 0 0), .v (.slice none 0 0)] := by kernel_rfl
@[go_sem] theorem t73_f0 : fldT Tryz.prog 73 0 = some (0, 1, 3) := by kernel_rfl
@[go_sem] theorem t73_f1 : fldT Tryz.prog 73 1 = some (1, 1, 3) := by kernel_rfl
@[go_sem] theorem t73_f2 : fldT Tryz.prog 73 2 = some (2, 1, 3) := by kernel_rfl
@[go_sem] theorem t73_f3 : fldT Tryz.prog 73 3 = some (3, 1, 3) := by kernel_rfl
@[go_sem] theorem t73_f4 : fldT Tryz.prog 73 4 = some (4, 3, 72) := by kernel_rfl
@[go_sem] theorem t73_f5 : fldT Tryz.prog 73 5 = some (7, 1, 43) := by kernel_rfl
@[go_sem] theorem t73_f6 : fldT Tryz.prog 73 6 = some (8, 1, 43) := by kernel_rfl
@[go_sem] theorem t73_f7 : fldT Tryz.prog 73 7 = some (9, 1, 43) := by kernel_rfl
@[go_sem] theorem t73_fo : fldsOf Tryz.prog 73 = some [(0, 1), (1, 1), (2, 1), (3, 1), (4, 3), (7, 1), (8, 1), (9, 1)] := by kernel_rfl
@[go_sem] theorem t74_sz : szT Tryz.prog 74 = some 10 := by kernel_rfl
@[go_sem] theorem t74_by : bytesT Tryz.prog 74 = some 144 := by kernel_rfl
@[go_sem] theorem t74_ag : aggT Tryz.prog 74 = some true := by kernel_rfl
@[go_sem] theorem t74_ze : zeroT Tryz.prog 74 = some [.v (.int .i64 0), .v (.int .i64 0), .v (.int .i64 0), .v (.int .i64 0), .v (.int .i64 0), .v (.int .i64 0), .v (.slice none 0 0), .v (.slice none 0 0), .v (.slice none 0 0), .v (.slice none 0 0)] := by kernel_rfl
@[go_sem] theorem t74_f0 : fldT Tryz.prog 74 0 = some (0, 1, 3) := by kernel_rfl
@[go_sem] theorem t74_f1 : fldT Tryz.prog 74 1 = some (1, 1, 3) := by kernel_rfl
@[go_sem] theorem t74_f2 : fldT Tryz.prog 74 2 = some (2, 1, 3) := by kernel_rfl
@[go_sem] theorem t74_f3 : fldT Tryz.prog 74 3 = some (3, 1, 3) := by kernel_rfl
@[go_sem] theorem t74_f4 : fldT Tryz.prog 74 4 = some (4, 3, 72) := by kernel_rfl
@[go_sem] theorem t74_f5 : fldT Tryz.prog 74 5 = some (7, 1, 43) := by kernel_rfl
@[go_sem] theorem t74_f6 : fldT Tryz.prog 74 6 = some (8, 1, 43) := by kernel_rfl
@[go_sem] theorem t74_f7 : fldT Tryz.prog 74 7 = some (9, 1, 43) := by kernel_rfl
@[go_sem] theorem t74_fo : fldsOf Tryz.prog 74 = some [(0, 1), (1, 1), (2, 1), (3, 1), (4, 3), (7, 1), (8, 1), (9, 1)] := by kernel_rfl
@[go_sem] theorem t75_sz : szT Tryz.prog 75 = some 1 := by kernel_rfl
@[go_sem] theorem t75_by : bytesT Tryz.prog 75 = some 24 := by kernel_rfl
@[go_sem] theorem t75_ag : aggT Tryz.prog 75 = some false := by kernel_rfl
@[go_sem] theorem t75_ze : zeroT Tryz.prog 75 = some [.v (.slice none 0 0)] := by kernel_rfl
@[go_sem] theorem t75_el : elemT Tryz.prog 75 = some 172 := by kernel_rfl
@[go_sem] theorem t75_un : Tryz.prog.underlying 75 = some (.slice 172) := by kernel_rfl
@[go_sem] theorem t75_ni : notInt Tryz.prog 75 = true := by kernel_rfl
@[go_sem] theorem t76_sz : szT Tryz.prog 76 = some 4 := by kernel_rfl
@[go_sem] theorem t76_by : bytesT Tryz.prog 76 = some 64 := by kernel_rfl
@[go_sem] theorem t76_ag : aggT Tryz.prog 76 = some true := by kernel_rfl
@[go_sem] theorem t76_ze : zeroT Tryz.prog 76 = some [.v (.int .i64 0), .v (.slice none 0 0), .v (.int .i64 0), .v (.slice none 0 0)] := by kernel_rfl
@[go_sem] theorem t76_f0 : fldT Tryz.prog 76 0 = some (0, 1, 3) := by kernel_rfl
@[go_sem] theorem t76_f1 : fldT Tryz.prog 76 1 = some (1, 1, 75) := by kernel_rfl
@[go_sem] theorem t76_f2 : fldT Tryz.prog 76 2 = some (2, 1, 3) := by kernel_rfl
@[go_sem] theorem t76_f3 : fldT Tryz.prog 76 3 = some (3, 1, 43) := by kernel_rfl
@[go_sem] theorem t76_fo : fldsOf Tryz.prog 76 = some [(0, 1), (1, 1), (2, 1), (3, 1)] := by kernel_rfl
@[go_sem] theorem t77_sz : szT Tryz.prog 77 = some 4 := by kernel_rfl
@[go_sem] theorem t77_by : bytesT Tryz.prog 77 = some 64 := by kernel_rfl
@[go_sem] theorem t77_ag : aggT Tryz.prog 77 = some true := by kernel_rfl
@[go_sem] theorem t77_ze : zeroT Tryz.prog 77 = some [.v (.int .i64 0), .v (.slice none 0 0), .v (.int .i64 0), .v (.slice none 0 0)] := by kernel_rfl
@[go_sem] theorem t77_f0 : fldT Tryz.prog 77 0 = some (0, 1, 3) := by kernel_rfl
@[go_sem] theorem t77_f1 : fldT Tryz.prog 77 1 = some (1, 1, 75) := by kernel_rfl
@[go_sem] theorem t77_f2 : fldT Tryz.prog 77 2 = some (2, 1, 3) := by kernel_rfl
@[go_sem] theorem t77_f3 : fldT Tryz.prog 77 3 = some (3, 1, 43) := by kernel_rfl
@[go_sem] theorem t77_fo : fldsOf Tryz.prog 77 = some [(0, 1), (1, 1), (2, 1), (3, 1)] := by kernel_rfl
@[go_sem] theorem t78_sz : szT Tryz.prog 78 = some 1 := by kernel_rfl
@[go_sem] theorem t78_by : bytesT Tryz.prog 78 = some 24 := by kernel_rfl
@[go_sem] theorem t78_ag : aggT Tryz.prog 78 = some false := by kernel_rfl
@[go_sem] theorem t78_ze : zeroT Tryz.prog 78 = some [.v (.slice none 0 0)] := by kernel_rfl
@[go_sem] theorem t78_el : elemT Tryz.prog 78 = some 145 := by kernel_rfl
@[go_sem] theorem t78_un : Tryz.prog.underlying 78 = some (.slice 145) := by kernel_rfl
@[go_sem] theorem t78_ni : notInt Tryz.prog 78 = true := by kernel_rfl
@[go_sem] theorem t79_sz : szT Tryz.prog 79 = some 19 := by kernel_rfl
@[go_sem] theorem t79_by : bytesT Tryz.prog 79 = some 280 := by kernel_rfl
@[go_sem] theorem t79_ag : aggT Tryz.prog 79 = some true := by kernel_rfl
@[go_sem] theorem t79_ze : zeroT Tryz.prog 79 = some [.v (.bool false), .v (.int .i64 0), .v (.slice none 0 0), .v (.int .i64 0), .v (.int .i64 0), .v (.int .i64 0), .v (.int .i64 0), .v (.int .i64 0), .v (.int .i64 0), .v (.slice none 0 0), .v (.slice none 0 0), .v (.slice none 0 0), .v (.slice none 0 0), .v (.int .i64 0), .v (.int .i64 0), .v (.slice none 0 0), .v (.int .i64 0), .v (.slice none 0 0), .v (.slice none 0 0)] := by kernel_rfl
@[go_sem] theorem t79_f0 : fldT Tryz.prog 79 0 = some (0, 1, 4) := by kernel_rfl
@[go_sem] theorem t79_f1 : fldT Tryz.prog 79 1 = some (1, 2, 69) := by kernel_rfl
@[go_sem] theorem t79_f2 : fldT Tryz.prog 79 2 = some (3, 10, 74) := by kernel_rfl
@[go_sem] theorem t79_f3 : fldT Tryz.prog 79 3 = some (13, 1, 3) := by kernel_rfl
@[go_sem] theorem t79_f4 : fldT Tryz.prog 79 4 = some (14, 4, 77) := by kernel_rfl
@[go_sem] theorem t79_f5 : fldT Tryz.prog 79 5 = some (18, 1, 78) := by kernel_rfl
@[go_sem] theorem t79_fo : fldsOf Tryz.prog 79 = some [(0, 1), (1, 2), (3, 10), (13, 1), (14, 4), (18, 1)] := by kernel_rfl
@[go_sem] theorem t80_sz : szT Tryz.prog 80 = some 19 := by kernel_rfl
@[go_sem] theorem t80_by : bytesT Tryz.prog 80 = some 280 := by kernel_rfl
@[go_sem] theorem t80_ag : aggT Tryz.prog 80 = some true := by kernel_rfl
@[go_sem] theorem t80_ze : zeroT Tryz.prog 80 = some [.v (.bool false), .v (.int .i64 0), .v (.slice none 0 0), .v (.int .i64 0), .v (.int .i64 0), .v (.int .i64 0), .v (.int .i64 0), .v (.int .i64 0), .v (.int .i64 0), .v (.slice none 0 0), .v (.slice none 0 0), .v (.slice none 0 0), .v (.slice none 0 0), .v (.int .i64 0), .v (.int .i64 0), .v (.slice none 0 0), .v (.int .i64 0), .v (.slice none 0 0), .v (.slice none 0 0)] := by kernel_rfl
@[go_sem] theorem t80_f0 : fldT Tryz.prog 80 0 = some (0, 1, 4) := by kernel_rfl
@[go_sem] theorem t80_f1 : fldT Tryz.prog 80 1 = some (1, 2, 69) := by kernel_rfl
@[go_sem] theorem t80_f2 : fldT Tryz.prog 80 2 = some (3, 10, 74) := by kernel_rfl
@[go_sem] theorem t80_f3 : fldT Tryz.prog 80 3 = some (13, 1, 3) := by kernel_rfl
@[go_sem] theorem t80_f4 : fldT Tryz.prog 80 4 = some (14, 4, 77) := by kernel_rfl
@[go_sem] theorem t80_f5 : fldT Tryz.prog 80 5 = some (18, 1, 78) := by kernel_rfl
@[go_sem] theorem t80_fo : fldsOf Tryz.prog 80 = some [(0, 1), (1, 2), (3, 10), (13, 1), (14, 4), (18, 1)] := by kernel_rfl
@[go_sem] theorem t82_sz : szT Tryz.prog 82 = some 2 := by kernel_rfl
@[go_sem] theorem t82_by : bytesT Tryz.prog 82 = some 24 := by kernel_rfl
@[go_sem] theorem t82_ag : aggT Tryz.prog 82 = some true := by kernel_rfl
@[go_sem] theorem t82_ze : zeroT Tryz.prog 82 = some [.v (.int .i64 0), .v (.string ⟨#[]⟩)] := by kernel_rfl
@[go_sem] theorem t82_f0 : fldT Tryz.prog 82 0 = some (0, 1, 3) := by kernel_rfl
@[go_sem] theorem t82_f1 : fldT Tryz.prog 82 1 = some (1, 1, 9) := by kernel_rfl
@[go_sem] theorem t82_fo : fldsOf Tryz.prog 82 = some [(0, 1), (1, 1)] := by kernel_rfl
@[go_sem] theorem t83_sz : szT Tryz.prog 83 = some 2 := by kernel_rfl
@[go_sem] theorem t83_by : bytesT Tryz.prog 83 = some 24 := by kernel_rfl
@[go_sem] theorem t83_ag : aggT Tryz.prog 83 = some true := by kernel_rfl
@[go_sem] theorem t83_ze : zeroT Tryz.prog 83 = some [.v (.int .i64 0), .v (.string ⟨#[]⟩)] := by kernel_rfl
@[go_sem] theorem t83_f0 : fldT Tryz.prog 83 0 = some (0, 1, 3) := by kernel_rfl
@[go_sem] theorem t83_f1 : fldT Tryz.prog 83 1 = some (1, 1, 9) := by kernel_rfl
@[go_sem] theorem t83_fo : fldsOf Tryz.prog 83 = some [(0, 1), (1, 1)] := by kernel_rfl
@[go_sem] theorem t83_eg : Tryz.prog.eqGuardType Tryz.prog.depth 83 = false := by kernel_rfl
@[go_sem] theorem t83_fl : eqFlds Tryz.prog 83 = some [(3, 0), (9, 1)] := by kernel_rfl
@[go_sem] theorem t83_eq (neg : Bool) (xs ys : List T) : eqAggT Tryz.prog neg 83 (.agg xs) (.agg ys) = (match toVs xs, toVs ys with | some us, some ws => (eqL Tryz.prog 19 [(3, 0), (9, 1)] us ws).map fun b => .v (.bool (if neg = true then !b else b)) | _, _ => none) := eqAgg_t t83_eg t83_ag t83_fl neg xs ys
@[go_sem] theorem t87_sz : szT Tryz.prog 87 = some 2 := by kernel_rfl
@[go_sem] theorem t87_by : bytesT Tryz.prog 87 = some 24 := by kernel_rfl
@[go_sem] theorem t87_ag : aggT Tryz.prog 87 = some true := by kernel_rfl
@[go_sem] theorem t87_ze : zeroT Tryz.prog 87 = some [.v (.int .i64 0), .v (.string ⟨#[]⟩)] := by kernel_rfl
@[go_sem] theorem t87_f0 : fldT Tryz.prog 87 0 = some (0, 1, 3) := by kernel_rfl
@[go_sem] theorem t87_f1 : fldT Tryz.prog 87 1 = some (1, 1, 9) := by kernel_rfl
@[go_sem] theorem t87_fo : fldsOf Tryz.prog 87 = some [(0, 1), (1, 1)] := by kernel_rfl
@[go_sem] theorem t87_eg : Tryz.prog.eqGuardType Tryz.prog.depth 87 = false := by kernel_rfl
@[go_sem] theorem t87_fl : eqFlds Tryz.prog 87 = some [(3, 0), (9, 1)] := by kernel_rfl
@[go_sem] theorem t87_eq (neg : Bool) (xs ys : List T) : eqAggT Tryz.prog neg 87 (.agg xs) (.agg ys) = (match toVs xs, toVs ys with | some us, some ws => (eqL Tryz.prog 19 [(3, 0), (9, 1)] us ws).map fun b => .v (.bool (if neg = true then !b else b)) | _, _ => none) := eqAgg_t t87_eg t87_ag t87_fl neg xs ys
@[go_sem] theorem t92_sz : szT Tryz.prog 92 = some 5 := by kernel_rfl
@[go_sem] theorem t92_by : bytesT Tryz.prog 92 = some 64 := by kernel_rfl
@[go_sem] theorem t92_ag : aggT Tryz.prog 92 = some true := by kernel_rfl
@[go_sem] theorem t92_ze : zeroT Tryz.prog 92 = some [.v (.int .i64 0), .v (.int .i64 0), .v (.string ⟨#[]⟩), .v (.slice none 0 0), .v (.int .i64 0)] := by kernel_rfl
@[go_sem] theorem t92_f0 : fldT Tryz.prog 92 0 = some (0, 1, 3) := by kernel_rfl
@[go_sem] theorem t92_f1 : fldT Tryz.prog 92 1 = some (1, 1, 3) := by kernel_rfl
@[go_sem] theorem t92_f2 : fldT Tryz.prog 92 2 = some (2, 1, 9) := by kernel_rfl
@[go_sem] theorem t92_f3 : fldT Tryz.prog 92 3 = some (3, 1, 43) := by kernel_rfl
@[go_sem] theorem t92_f4 : fldT Tryz.prog 92 4 = some (4, 1, 3) := by kernel_rfl
@[go_sem] theorem t92_fo : fldsOf Tryz.prog 92 = some [(0, 1), (1, 1), (2, 1), (3, 1), (4, 1)] := by kernel_rfl
@[go_sem] theorem t93_sz : szT Tryz.prog 93 = some 5 := by kernel_rfl
@[go_sem] theorem t93_by : bytesT Tryz.prog 93 = some 64 := by kernel_rfl
@[go_sem] theorem t93_ag : aggT Tryz.prog 93 = some true := by kernel_rfl
@[go_sem] theorem t93_ze : zeroT Tryz.prog 93 = some [.v (.int .i64 0), .v (.int .i64 0), .v (.string ⟨#[]⟩), .v (.slice none 0 0), .v (.int .i64 0)] := by kernel_rfl
@[go_sem] theorem t93_f0 : fldT Tryz.prog 93 0 = some (0, 1, 3) := by kernel_rfl
@[go_sem] theorem t93_f1 : fldT Tryz.prog 93 1 = some (1, 1, 3) := by kernel_rfl
@[go_sem] theorem t93_f2 : fldT Tryz.prog 93 2 = some (2, 1, 9) := by kernel_rfl
@[go_sem] theorem t93_f3 : fldT Tryz.prog 93 3 = some (3, 1, 43) := by kernel_rfl
@[go_sem] theorem t93_f4 : fldT Tryz.prog 93 4 = some (4, 1, 3) := by kernel_rfl
@[go_sem] theorem t93_fo : fldsOf Tryz.prog 93 = some [(0, 1), (1, 1), (2, 1), (3, 1), (4, 1)] := by kernel_rfl
@[go_sem] theorem t107_sz : szT Tryz.prog 107 = some 1 := by kernel_rfl
@[go_sem] theorem t107_by : bytesT Tryz.prog 107 = some 24 := by kernel_rfl
@[go_sem] theorem t107_ag : aggT Tryz.prog 107 = some false := by kernel_rfl
@[go_sem] theorem t107_ze : zeroT Tryz.prog 107 = some [.v (.slice none 0 0)] := by kernel_rfl
@[go_sem] theorem t107_el : elemT Tryz.prog 107 = some 9 := by kernel_rfl
@[go_sem] theorem t107_un : Tryz.prog.underlying 107 = some (.slice 9) := by kernel_rfl
@[go_sem] theorem t107_ni : notInt Tryz.prog 107 = true := by kernel_rfl
@[go_sem] theorem t108_sz : szT Tryz.prog 108 = some 3 := by kernel_rfl
@[go_sem] theorem t108_by : bytesT Tryz.prog 108 = some 48 := by kernel_rfl
@[go_sem] theorem t108_ag : aggT Tryz.prog 108 = some true := by kernel_rfl
@[go_sem] theorem t108_ze : zeroT Tryz.prog 108 = some [.v (.int .i64 0), .v (.string ⟨#[]⟩), .v (.slice none 0 0)] := by kernel_rfl
@[go_sem] theorem t108_f0 : fldT Tryz.prog 108 0 = some (0, 1, 3) := by kernel_rfl
@[go_sem] theorem t108_f1 : fldT Tryz.prog 108 1 = some (1, 1, 9) := by kernel_rfl
@[go_sem] theorem t108_f2 : fldT Tryz.prog 108 2 = some (2, 1, 107) := by kernel_rfl
@[go_sem] theorem t108_fo : fldsOf Tryz.prog 108 = some [(0, 1), (1, 1), (2, 1)] := by kernel_rfl
@[go_sem] theorem t109_sz : szT Tryz.prog 109 = some 3 := by kernel_rfl
@[go_sem] theorem t109_by : bytesT Tryz.prog 109 = some 48 := by kernel_rfl
@[go_sem] theorem t109_ag : aggT Tryz.prog 109 = some true := by kernel_rfl
@[go_sem] theorem t109_ze : zeroT Tryz.prog 109 = some [.v (.int .i64 0), .v (.string ⟨#[]⟩), .v (.slice none 0 0)] := by kernel_rfl
@[go_sem] theorem t109_f0 : fldT Tryz.prog 109 0 = some (0, 1, 3) := by kernel_rfl
@[go_sem] theorem t109_f1 : fldT Tryz.prog 109 1 = some (1, 1, 9) := by kernel_rfl
@[go_sem] theorem t109_f2 : fldT Tryz.prog 109 2 = some (2, 1, 107) := by kernel_rfl
@[go_sem] theorem t109_fo : fldsOf Tryz.prog 109 = some [(0, 1), (1, 1), (2, 1)] := by kernel_rfl
@[go_sem] theorem t110_sz : szT Tryz.prog 110 = some 4 := by kernel_rfl
@[go_sem] theorem t110_by : bytesT Tryz.prog 110 = some 56 := by kernel_rfl
@[go_sem] theorem t110_ag : aggT Tryz.prog 110 = some true := by kernel_rfl
@[go_sem] theorem t110_ze : zeroT Tryz.prog 110 = some [.v (.int .i64 0), .v (.int .i64 0), .v (.string ⟨#[]⟩), .v (.slice none 0 0)] := by kernel_rfl
@[go_sem] theorem t110_f0 : fldT Tryz.prog 110 0 = some (0, 1, 3) := by kernel_rfl
@[go_sem] theorem t110_f1 : fldT Tryz.prog 110 1 = some (1, 3, 109) := by kernel_rfl
@[go_sem] theorem t110_fo : fldsOf Tryz.prog 110 = some [(0, 1), (1, 3)] := by kernel_rfl
@[go_sem] theorem t111_sz : szT Tryz.prog 111 = some 4 := by kernel_rfl
@[go_sem] theorem t111_by : bytesT Tryz.prog 111 = some 56 := by kernel_rfl
@[go_sem] theorem t111_ag : aggT Tryz.prog 111 = some true := by kernel_rfl
@[go_sem] theorem t111_ze : zeroT Tryz.prog 111 = some [.v (.int .i64 0), .v (.int .i64 0), .v (.string ⟨#[]⟩), .v (.slice none 0 0)] := by kernel_rfl
@[go_sem] theorem t111_f0 : fldT Tryz.prog 111 0 = some (0, 1, 3) := by kernel_rfl
@[go_sem] theorem t111_f1 : fldT Tryz.prog 111 1 = some (1, 3, 109) := by kernel_rfl
@[go_sem] theorem t111_fo : fldsOf Tryz.prog 111 = some [(0, 1), (1, 3)] := by kernel_rfl
@[go_sem] theorem t143_sz : szT Tryz.prog 143 = some 3 := by kernel_rfl
@[go_sem] theorem t143_by : bytesT Tryz.prog 143 = some 48 := by kernel_rfl
@[go_sem] theorem t143_ag : aggT Tryz.prog 143 = some true := by kernel_rfl
@[go_sem] theorem t143_ze : zeroT Tryz.prog 143 = some [.v (.int .i64 0), .v (.string ⟨#[]⟩), .v (.slice none 0 0)] := by kernel_rfl
@[go_sem] theorem t143_f0 : fldT Tryz.prog 143 0 = some (0, 1, 3) := by kernel_rfl
@[go_sem] theorem t143_f1 : fldT Tryz.prog 143 1 = some (1, 1, 9) := by kernel_rfl
@[go_sem] theorem t143_f2 : fldT Tryz.prog 143 2 = some (2, 1, 107) := by kernel_rfl
@[go_sem] theorem t143_fo : fldsOf Tryz.prog 143 = some [(0, 1), (1, 1), (2, 1)] := by kernel_rfl
@[go_sem] theorem t144_sz : szT Tryz.prog 144 = some 4 := by kernel_rfl
@[go_sem] theorem t144_by : bytesT Tryz.prog 144 = some 56 := by kernel_rfl
@[go_sem] theorem t144_ag : aggT Tryz.prog 144 = some true := by kernel_rfl
@[go_sem] theorem t144_ze : zeroT Tryz.prog 144 = some [.v (.int .i64 0), .v (.int .i64 0), .v (.string ⟨#[]⟩), .v (.slice none 0 0)] := by kernel_rfl
@[go_sem] theorem t144_f0 : fldT Tryz.prog 144 0 = some (0, 1, 3) := by kernel_rfl
@[go_sem] theorem t144_f1 : fldT Tryz.prog 144 1 = some (1, 3, 143) := by kernel_rfl
@[go_sem] theorem t144_fo : fldsOf Tryz.prog 144 = some [(0, 1), (1, 3)] := by kernel_rfl
@[go_sem] theorem t145_sz : szT Tryz.prog 145 = some 4 := by kernel_rfl
@[go_sem] theorem t145_by : bytesT Tryz.prog 145 = some 56 := by kernel_rfl
@[go_sem] theorem t145_ag : aggT Tryz.prog 145 = some true := by kernel_rfl
@[go_sem] theorem t145_ze : zeroT Tryz.prog 145 = some [.v (.int .i64 0), .v (.int .i64 0), .v (.string ⟨#[]⟩), .v (.slice none 0 0)] := by kernel_rfl
@[go_sem] theorem t145_f0 : fldT Tryz.prog 145 0 = some (0, 1, 3) := by kernel_rfl
@[go_sem] theorem t145_f1 : fldT Tryz.prog 145 1 = some (1, 3, 143) := by kernel_rfl
@[go_sem] theorem t145_fo : fldsOf Tryz.prog 145 = some [(0, 1), (1, 3)] := by kernel_rfl
@[go_sem] theorem t147_sz : szT Tryz.prog 147 = some 3 := by kernel_rfl
@[go_sem] theorem t147_by : bytesT Tryz.prog 147 = some 40 := by kernel_rfl
@[go_sem] theorem t147_ag : aggT Tryz.prog 147 = some true := by kernel_rfl
@[go_sem] theorem t147_ze : zeroT Tryz.prog 147 = some [.v (.int .i64 0), .v (.string ⟨#[]⟩), .v (.string ⟨#[]⟩)] := by kernel_rfl
@[go_sem] theorem t147_f0 : fldT Tryz.prog 147 0 = some (0, 1, 3) := by kernel_rfl
@[go_sem] theorem t147_f1 : fldT Tryz.prog 147 1 = some (1, 1, 9) := by kernel_rfl
@[go_sem] theorem t147_f2 : fldT Tryz.prog 147 2 = some (2, 1, 9) := by kernel_rfl
@[go_sem] theorem t147_fo : fldsOf Tryz.prog 147 = some [(0, 1), (1, 1), (2, 1)] := by kernel_rfl
@[go_sem] theorem t148_sz : szT Tryz.prog 148 = some 3 := by kernel_rfl
@[go_sem] theorem t148_by : bytesT Tryz.prog 148 = some 40 := by kernel_rfl
@[go_sem] theorem t148_ag : aggT Tryz.prog 148 = some true := by kernel_rfl
@[go_sem] theorem t148_ze : zeroT Tryz.prog 148 = some [.v (.int .i64 0), .v (.string ⟨#[]⟩), .v (.string ⟨#[]⟩)] := by kernel_rfl
@[go_sem] theorem t148_f0 : fldT Tryz.prog 148 0 = some (0, 1, 3) := by kernel_rfl
@[go_sem] theorem t148_f1 : fldT Tryz.prog 148 1 = some (1, 1, 9) := by kernel_rfl
@[go_sem] theorem t148_f2 : fldT Tryz.prog 148 2 = some (2, 1, 9) := by kernel_rfl
@[go_sem] theorem t148_fo : fldsOf Tryz.prog 148 = some [(0, 1), (1, 1), (2, 1)] := by kernel_rfl
@[go_sem] theorem t148_eg : Tryz.prog.eqGuardType Tryz.prog.depth 148 = false := by kernel_rfl
@[go_sem] theorem t148_fl : eqFlds Tryz.prog 148 = some [(3, 0), (9, 1), (9, 2)] := by kernel_rfl
@[go_sem] theorem t148_eq (neg : Bool) (xs ys : List T) : eqAggT Tryz.prog neg 148 (.agg xs) (.agg ys) = (match toVs xs, toVs ys with | some us, some ws => (eqL Tryz.prog 19 [(3, 0), (9, 1), (9, 2)] us ws).map fun b => .v (.bool (if neg = true then !b else b)) | _, _ => none) := eqAgg_t t148_eg t148_ag t148_fl neg xs ys
@[go_sem] theorem t164_sz : szT Tryz.prog 164 = some 1 := by kernel_rfl
@[go_sem] theorem t164_by : bytesT Tryz.prog 164 = some 24 := by kernel_rfl
@[go_sem] theorem t164_ag : aggT Tryz.prog 164 = some false := by kernel_rfl
@[go_sem] theorem t164_ze : zeroT Tryz.prog 164 = some [.v (.slice none 0 0)] := by kernel_rfl
@[go_sem] theorem t164_el : elemT Tryz.prog 164 = some 5 := by kernel_rfl
@[go_sem] theorem t164_un : Tryz.prog.underlying 164 = some (.slice 5) := by kernel_rfl
@[go_sem] theorem t164_ni : notInt Tryz.prog 164 = true := by kernel_rfl
@[go_sem] theorem t164_bs : byteSlice Tryz.prog 164 = true := by kernel_rfl
@[go_sem] theorem t169_sz : szT Tryz.prog 169 = some 3 := by kernel_rfl
@[go_sem] theorem t169_by : bytesT Tryz.prog 169 = some 40 := by kernel_rfl
@[go_sem] theorem t169_ag : aggT Tryz.prog 169 = some true := by kernel_rfl
@[go_sem] theorem t169_ze : zeroT Tryz.prog 169 = some [.v (.int .i64 0), .v (.string ⟨#[]⟩), .v (.string ⟨#[]⟩)] := by kernel_rfl
@[go_sem] theorem t169_f0 : fldT Tryz.prog 169 0 = some (0, 1, 3) := by kernel_rfl
@[go_sem] theorem t169_f1 : fldT Tryz.prog 169 1 = some (1, 1, 9) := by kernel_rfl
@[go_sem] theorem t169_f2 : fldT Tryz.prog 169 2 = some (2, 1, 9) := by kernel_rfl
@[go_sem] theorem t169_fo : fldsOf Tryz.prog 169 = some [(0, 1), (1, 1), (2, 1)] := by kernel_rfl
@[go_sem] theorem t169_eg : Tryz.prog.eqGuardType Tryz.prog.depth 169 = false := by kernel_rfl
@[go_sem] theorem t169_fl : eqFlds Tryz.prog 169 = some [(3, 0), (9, 1), (9, 2)] := by kernel_rfl
@[go_sem] theorem t169_eq (neg : Bool) (xs ys : List T) : eqAggT Tryz.prog neg 169 (.agg xs) (.agg ys) = (match toVs xs, toVs ys with | some us, some ws => (eqL Tryz.prog 19 [(3, 0), (9, 1), (9, 2)] us ws).map fun b => .v (.bool (if neg = true then !b else b)) | _, _ => none) := eqAgg_t t169_eg t169_ag t169_fl neg xs ys
@[go_sem] theorem t172_sz : szT Tryz.prog 172 = some 5 := by kernel_rfl
@[go_sem] theorem t172_by : bytesT Tryz.prog 172 = some 64 := by kernel_rfl
@[go_sem] theorem t172_ag : aggT Tryz.prog 172 = some true := by kernel_rfl
@[go_sem] theorem t172_ze : zeroT Tryz.prog 172 = some [.v (.int .i64 0), .v (.int .i64 0), .v (.string ⟨#[]⟩), .v (.slice none 0 0), .v (.int .i64 0)] := by kernel_rfl
@[go_sem] theorem t172_f0 : fldT Tryz.prog 172 0 = some (0, 1, 3) := by kernel_rfl
@[go_sem] theorem t172_f1 : fldT Tryz.prog 172 1 = some (1, 1, 3) := by kernel_rfl
@[go_sem] theorem t172_f2 : fldT Tryz.prog 172 2 = some (2, 1, 9) := by kernel_rfl
@[go_sem] theorem t172_f3 : fldT Tryz.prog 172 3 = some (3, 1, 43) := by kernel_rfl
@[go_sem] theorem t172_f4 : fldT Tryz.prog 172 4 = some (4, 1, 3) := by kernel_rfl
@[go_sem] theorem t172_fo : fldsOf Tryz.prog 172 = some [(0, 1), (1, 1), (2, 1), (3, 1), (4, 1)] := by kernel_rfl
@[go_sem] theorem t185_sz : szT Tryz.prog 185 = some 1 := by kernel_rfl
@[go_sem] theorem t185_by : bytesT Tryz.prog 185 = some 8 := by kernel_rfl
@[go_sem] theorem t185_ag : aggT Tryz.prog 185 = some false := by kernel_rfl
@[go_sem] theorem t185_ze : zeroT Tryz.prog 185 = some [.v (.int .u64 0)] := by kernel_rfl
@[go_sem] theorem t185_un : Tryz.prog.underlying 185 = some (.int .u64) := by kernel_rfl
@[go_sem] theorem t185_ec (m : Nat) (k : IntKind) (a b : Int) : eqC Tryz.prog (m + 1) 185 [.int k a] [.int k b] = some (decide (a = b)) := eqC_int t185_un k a b
@[go_sem] theorem t192_sz : szT Tryz.prog 192 = some 5 := by kernel_rfl
@[go_sem] theorem t192_by : bytesT Tryz.prog 192 = some 48 := by kernel_rfl
@[go_sem] theorem t192_ag : aggT Tryz.prog 192 = some true := by kernel_rfl
@[go_sem] theorem t192_ze : zeroT Tryz.prog 192 = some [.v (.int .i64 0), .v (.int .i64 0), .v (.int .i64 0), .v (.int .i64 0), .v (.string ⟨#[]⟩)] := by kernel_rfl
@[go_sem] theorem t192_f0 : fldT Tryz.prog 192 0 = some (0, 1, 3) := by kernel_rfl
@[go_sem] theorem t192_f1 : fldT Tryz.prog 192 1 = some (1, 1, 3) := by kernel_rfl
@[go_sem] theorem t192_f2 : fldT Tryz.prog 192 2 = some (2, 1, 3) := by kernel_rfl
@[go_sem] theorem t192_f3 : fldT Tryz.prog 192 3 = some (3, 1, 3) := by kernel_rfl
@[go_sem] theorem t192_f4 : fldT Tryz.prog 192 4 = some (4, 1, 9) := by kernel_rfl
@[go_sem] theorem t192_fo : fldsOf Tryz.prog 192 = some [(0, 1), (1, 1), (2, 1), (3, 1), (4, 1)] := by kernel_rfl
@[go_sem] theorem t192_eg : Tryz.prog.eqGuardType Tryz.prog.depth 192 = false := by kernel_rfl
@[go_sem] theorem t192_fl : eqFlds Tryz.prog 192 = some [(3, 0), (3, 1), (3, 2), (3, 3), (9, 4)] := by kernel_rfl
@[go_sem] theorem t192_eq (neg : Bool) (xs ys : List T) : eqAggT Tryz.prog neg 192 (.agg xs) (.agg ys) = (match toVs xs, toVs ys with | some us, some ws => (eqL Tryz.prog 19 [(3, 0), (3, 1), (3, 2), (3, 3), (9, 4)] us ws).map fun b => .v (.bool (if neg = true then !b else b)) | _, _ => none) := eqAgg_t t192_eg t192_ag t192_fl neg xs ys
@[go_sem] theorem t193_sz : szT Tryz.prog 193 = some 6 := by kernel_rfl
@[go_sem] theorem t193_by : bytesT Tryz.prog 193 = some 56 := by kernel_rfl
@[go_sem] theorem t193_ag : aggT Tryz.prog 193 = some true := by kernel_rfl
@[go_sem] theorem t193_ze : zeroT Tryz.prog 193 = some [.v (.int .i64 0), .v (.int .i64 0), .v (.int .i64 0), .v (.int .i64 0), .v (.int .i64 0), .v (.string ⟨#[]⟩)] := by kernel_rfl
@[go_sem] theorem t193_f0 : fldT Tryz.prog 193 0 = some (0, 1, 3) := by kernel_rfl
@[go_sem] theorem t193_f1 : fldT Tryz.prog 193 1 = some (1, 5, 192) := by kernel_rfl
@[go_sem] theorem t193_fo : fldsOf Tryz.prog 193 = some [(0, 1), (1, 5)] := by kernel_rfl
@[go_sem] theorem t194_sz : szT Tryz.prog 194 = some 6 := by kernel_rfl
@[go_sem] theorem t194_by : bytesT Tryz.prog 194 = some 56 := by kernel_rfl
@[go_sem] theorem t194_ag : aggT Tryz.prog 194 = some true := by kernel_rfl
@[go_sem] theorem t194_ze : zeroT Tryz.prog 194 = some [.v (.int .i64 0), .v (.int .i64 0), .v (.int .i64 0), .v (.int .i64 0), .v (.int .i64 0), .v (.string ⟨#[]⟩)] := by kernel_rfl
@[go_sem] theorem t194_f0 : fldT Tryz.prog 194 0 = some (0, 1, 3) := by kernel_rfl
@[go_sem] theorem t194_f1 : fldT Tryz.prog 194 1 = some (1, 5, 192) := by kernel_rfl
@[go_sem] theorem t194_fo : fldsOf Tryz.prog 194 = some [(0, 1), (1, 5)] := by kernel_rfl
@[go_sem] theorem t199_sz : szT Tryz.prog 199 = some 1 := by kernel_rfl
@[go_sem] theorem t199_by : bytesT Tryz.prog 199 = some 8 := by kernel_rfl
@[go_sem] theorem t199_ag : aggT Tryz.prog 199 = some false := by kernel_rfl
@[go_sem] theorem t199_ze : zeroT Tryz.prog 199 = some [.v (.int .i64 0)] := by kernel_rfl
@[go_sem] theorem t199_un : Tryz.prog.underlying 199 = some (.int .i64) := by kernel_rfl
@[go_sem] theorem t199_ec (m : Nat) (k : IntKind) (a b : Int) : eqC Tryz.prog (m + 1) 199 [.int k a] [.int k b] = some (decide (a = b)) := eqC_int t199_un k a b
@[go_sem] theorem t208_sz : szT Tryz.prog 208 = some 1 := by kernel_rfl
@[go_sem] theorem t208_by : bytesT Tryz.prog 208 = some 4 := by kernel_rfl
@[go_sem] theorem t208_ag : aggT Tryz.prog 208 = some false := by kernel_rfl
@[go_sem] theorem t208_ze : zeroT Tryz.prog 208 = some [.v (.int .u32 0)] := by kernel_rfl
@[go_sem] theorem t208_un : Tryz.prog.underlying 208 = some (.int .u32) := by kernel_rfl
@[go_sem] theorem t208_ec (m : Nat) (k : IntKind) (a b : Int) : eqC Tryz.prog (m + 1) 208 [.int k a] [.int k b] = some (decide (a = b)) := eqC_int t208_un k a b
@[go_sem] theorem t210_sz : szT Tryz.prog 210 = some 1 := by kernel_rfl
@[go_sem] theorem t210_by : bytesT Tryz.prog 210 = some 8 := by kernel_rfl
@[go_sem] theorem t210_ag : aggT Tryz.prog 210 = some false := by kernel_rfl
@[go_sem] theorem t210_ze : zeroT Tryz.prog 210 = some [.v (.int .u64 0)] := by kernel_rfl
@[go_sem] theorem t210_un : Tryz.prog.underlying 210 = some (.int .u64) := by kernel_rfl
@[go_sem] theorem t210_ec (m : Nat) (k : IntKind) (a b : Int) : eqC Tryz.prog (m + 1) 210 [.int k a] [.int k b] = some (decide (a = b)) := eqC_int t210_un k a b
@[go_sem] theorem t223_sz : szT Tryz.prog 223 = some 8 := by kernel_rfl
@[go_sem] theorem t223_by : bytesT Tryz.prog 223 = some 64 := by kernel_rfl
@[go_sem] theorem t223_ag : aggT Tryz.prog 223 = some true := by kernel_rfl
@[go_sem] theorem t223_ze : zeroT Tryz.prog 223 = some [.v (.int .i64 0), .v (.int .i64 0), .v (.int .i64 0), .v (.int .i64 0), .v (.int .i64 0), .v (.int .i64 0), .v (.int .i64 0), .v (.int .i64 0)] := by kernel_rfl
@[go_sem] theorem t223_fo : fldsOf Tryz.prog 223 = none := by kernel_rfl
@[go_sem] theorem t223_ea : eArr Tryz.prog 223 = some 1 := by kernel_rfl
@[go_sem] theorem t223_ar : arrT Tryz.prog 223 = some (8, 3) := by kernel_rfl
@[go_sem] theorem t223_el : elemT Tryz.prog 223 = none := by kernel_rfl
@[go_sem] theorem t228_sz : szT Tryz.prog 228 = some 1 := by kernel_rfl
@[go_sem] theorem t228_by : bytesT Tryz.prog 228 = some 8 := by kernel_rfl
@[go_sem] theorem t228_ag : aggT Tryz.prog 228 = some false := by kernel_rfl
@[go_sem] theorem t228_ze : zeroT Tryz.prog 228 = some [.v (.int .u64 0)] := by kernel_rfl
@[go_sem] theorem t228_un : Tryz.prog.underlying 228 = some (.int .u64) := by kernel_rfl
@[go_sem] theorem t228_ec (m : Nat) (k : IntKind) (a b : Int) : eqC Tryz.prog (m + 1) 228 [.int k a] [.int k b] = some (decide (a = b)) := eqC_int t228_un k a b
@[go_sem] theorem t236_sz : szT Tryz.prog 236 = some 64 := by kernel_rfl
@[go_sem] theorem t236_by : bytesT Tryz.prog 236 = some 512 := by kernel_rfl
@[go_sem] theorem t236_ag : aggT Tryz.prog 236 = some true := by kernel_rfl
@[go_sem] theorem t236_ze : zeroT Tryz.prog 236 = some [.v (.int .i64 0), .v (.int .i64 0), .v (.int .i64 0), .v (.int .i64 0), .v (.int .i64 0), .v (.int .i64 0), .v (.int .i64 0), .v (.int .i64 0), .v (.int .i64 0), .v (.int .i64 0), .v (.int .i64 0), .v (.int .i64 0), .v (.int .i64 0), .v (.int .i64 0), .v (.int .i64 0), .v (.int .i64 0), .v (.int .i64 0), .v (.int .i64 0), .v (.int .i64 0), .v (.int .i64 0), .v (.int .i64 0), .v (.int .i64 0), .v (.int .i64 0), .v (.int .i64 0), .v (.int .i64 0), .v (.int .i64 0), .v (.int .i64 0), .v (.int .i64 0), .v (.int .i64 0), .v (.int .i64 0), .v (.int .i64 0), .v (.int .i64 0), .v (.int .i64 0), .v (.int .i64 0), .v (.int .i64 0), .v (.int .i64 0), .v (.int .i64 0), .v (.int .i64 0), .v (.int .i64 0), .v (.int .i64 0), .v (.int .i64 0), .v (.int .i64 0), .v (.int .i64 0), .v (.int .i64 0), .v (.int .i64 0), .v (.int .i64 0), .v (.int .i64 0), .v (.int .i64 0), .v (.int .i64 0), .v (.int .i64 0), .v (.int .i64 0), .v (.int .i64 0), .v (.int .i64 0), .v (.int .i64 0), .v (.int .i64 0), .v (.int .i64 0), .v (.int .i64 0), .v (.int .i64 0), .v (.int .i64 0), .v (.int .i64 0), .v (.int .i64 0), .v (.int .i64 0), .v (.int .i64 0), .v (.int .i64 0)] := by kernel_rfl
@[go_sem] theorem t236_fo : fldsOf Tryz.prog 236 = none := by kernel_rfl
@[go_sem] theorem t236_ea : eArr Tryz.prog 236 = some 1 := by kernel_rfl
@[go_sem] theorem t236_ar : arrT Tryz.prog 236 = some (64, 3) := by kernel_rfl
@[go_sem] theorem t236_el : elemT Tryz.prog 236 = none := by kernel_rfl
abbrev F.laws_FnExactJudgeRolls : FuncId := 3
theorem C.laws_FnExactJudgeRolls : Tryz.prog.funcs[F.laws_FnExactJudgeRolls]? = some Tryz.f3 := Tryz.func3
abbrev F.laws_FnExactJudgeFleet : FuncId := 4
theorem C.laws_FnExactJudgeFleet : Tryz.prog.funcs[F.laws_FnExactJudgeFleet]? = some Tryz.f4 := Tryz.func4
abbrev F.laws_szFleet : FuncId := 5
theorem C.laws_szFleet : Tryz.prog.funcs[F.laws_szFleet]? = some Tryz.f5 := Tryz.func5
abbrev F.spec_JudgeRolls : FuncId := 6
theorem C.spec_JudgeRolls : Tryz.prog.funcs[F.spec_JudgeRolls]? = some Tryz.f6 := Tryz.func6
abbrev F.laws_toFleet : FuncId := 7
theorem C.laws_toFleet : Tryz.prog.funcs[F.laws_toFleet]? = some Tryz.f7 := Tryz.func7
abbrev F.impl_JudgeRolls : FuncId := 8
theorem C.impl_JudgeRolls : Tryz.prog.funcs[F.impl_JudgeRolls]? = some Tryz.f8 := Tryz.func8
abbrev F.laws_eqFleet : FuncId := 9
theorem C.laws_eqFleet : Tryz.prog.funcs[F.laws_eqFleet]? = some Tryz.f9 := Tryz.func9
abbrev F.spec_JudgeFleet : FuncId := 10
theorem C.spec_JudgeFleet : Tryz.prog.funcs[F.spec_JudgeFleet]? = some Tryz.f10 := Tryz.func10
abbrev F.impl_JudgeFleet : FuncId := 11
theorem C.impl_JudgeFleet : Tryz.prog.funcs[F.impl_JudgeFleet]? = some Tryz.f11 := Tryz.func11
abbrev F.laws_szMemberS : FuncId := 12
theorem C.laws_szMemberS : Tryz.prog.funcs[F.laws_szMemberS]? = some Tryz.f12 := Tryz.func12
abbrev F.laws_szFlightS : FuncId := 13
theorem C.laws_szFlightS : Tryz.prog.funcs[F.laws_szFlightS]? = some Tryz.f13 := Tryz.func13
abbrev F.spec_FleetOk : FuncId := 14
theorem C.spec_FleetOk : Tryz.prog.funcs[F.spec_FleetOk]? = some Tryz.f14 := Tryz.func14
abbrev F.spec_RollRun : FuncId := 15
theorem C.spec_RollRun : Tryz.prog.funcs[F.spec_RollRun]? = some Tryz.f15 := Tryz.func15
abbrev F.spec_RollNew : FuncId := 16
theorem C.spec_RollNew : Tryz.prog.funcs[F.spec_RollNew]? = some Tryz.f16 := Tryz.func16
abbrev F.spec_l16SameRoll : FuncId := 17
theorem C.spec_l16SameRoll : Tryz.prog.funcs[F.spec_l16SameRoll]? = some Tryz.f17 := Tryz.func17
abbrev F.laws_toMemberS : FuncId := 18
theorem C.laws_toMemberS : Tryz.prog.funcs[F.laws_toMemberS]? = some Tryz.f18 := Tryz.func18
abbrev F.laws_toFlightS : FuncId := 19
theorem C.laws_toFlightS : Tryz.prog.funcs[F.laws_toFlightS]? = some Tryz.f19 := Tryz.func19
abbrev F.impl_FleetOk : FuncId := 20
theorem C.impl_FleetOk : Tryz.prog.funcs[F.impl_FleetOk]? = some Tryz.f20 := Tryz.func20
abbrev F.impl_upOf : FuncId := 21
theorem C.impl_upOf : Tryz.prog.funcs[F.impl_upOf]? = some Tryz.f21 := Tryz.func21
abbrev F.impl_RollRun : FuncId := 22
theorem C.impl_RollRun : Tryz.prog.funcs[F.impl_RollRun]? = some Tryz.f22 := Tryz.func22
abbrev F.impl_RollNew : FuncId := 23
theorem C.impl_RollNew : Tryz.prog.funcs[F.impl_RollNew]? = some Tryz.f23 := Tryz.func23
abbrev F.impl_sameRoll : FuncId := 24
theorem C.impl_sameRoll : Tryz.prog.funcs[F.impl_sameRoll]? = some Tryz.f24 := Tryz.func24
abbrev F.laws_eqMemberS : FuncId := 25
theorem C.laws_eqMemberS : Tryz.prog.funcs[F.laws_eqMemberS]? = some Tryz.f25 := Tryz.func25
abbrev F.laws_eqFlightS : FuncId := 26
theorem C.laws_eqFlightS : Tryz.prog.funcs[F.laws_eqFlightS]? = some Tryz.f26 := Tryz.func26
abbrev F.spec_JudgeLeads : FuncId := 27
theorem C.spec_JudgeLeads : Tryz.prog.funcs[F.spec_JudgeLeads]? = some Tryz.f27 := Tryz.func27
abbrev F.spec_JudgeLogs : FuncId := 28
theorem C.spec_JudgeLogs : Tryz.prog.funcs[F.spec_JudgeLogs]? = some Tryz.f28 := Tryz.func28
abbrev F.spec_JudgeTexts : FuncId := 29
theorem C.spec_JudgeTexts : Tryz.prog.funcs[F.spec_JudgeTexts]? = some Tryz.f29 := Tryz.func29
abbrev F.impl_JudgeLeads : FuncId := 30
theorem C.impl_JudgeLeads : Tryz.prog.funcs[F.impl_JudgeLeads]? = some Tryz.f30 := Tryz.func30
abbrev F.impl_JudgeLogs : FuncId := 31
theorem C.impl_JudgeLogs : Tryz.prog.funcs[F.impl_JudgeLogs]? = some Tryz.f31 := Tryz.func31
abbrev F.impl_JudgeTexts : FuncId := 32
theorem C.impl_JudgeTexts : Tryz.prog.funcs[F.impl_JudgeTexts]? = some Tryz.f32 := Tryz.func32
abbrev F.laws_szMember : FuncId := 33
theorem C.laws_szMember : Tryz.prog.funcs[F.laws_szMember]? = some Tryz.f33 := Tryz.func33
abbrev F.laws_szFlight : FuncId := 34
theorem C.laws_szFlight : Tryz.prog.funcs[F.laws_szFlight]? = some Tryz.f34 := Tryz.func34
abbrev F.spec_l7Of : FuncId := 35
theorem C.spec_l7Of : Tryz.prog.funcs[F.spec_l7Of]? = some Tryz.f35 := Tryz.func35
abbrev F.spec_l15Member : FuncId := 36
theorem C.spec_l15Member : Tryz.prog.funcs[F.spec_l15Member]? = some Tryz.f36 := Tryz.func36
abbrev F.spec_l1In : FuncId := 37
theorem C.spec_l1In : Tryz.prog.funcs[F.spec_l1In]? = some Tryz.f37 := Tryz.func37
abbrev F.spec_l7Copy : FuncId := 38
theorem C.spec_l7Copy : Tryz.prog.funcs[F.spec_l7Copy]? = some Tryz.f38 := Tryz.func38
abbrev F.spec_RollOk : FuncId := 39
theorem C.spec_RollOk : Tryz.prog.funcs[F.spec_RollOk]? = some Tryz.f39 := Tryz.func39
abbrev F.spec_RollApply : FuncId := 40
theorem C.spec_RollApply : Tryz.prog.funcs[F.spec_RollApply]? = some Tryz.f40 := Tryz.func40
abbrev F.laws_toMember : FuncId := 41
theorem C.laws_toMember : Tryz.prog.funcs[F.laws_toMember]? = some Tryz.f41 := Tryz.func41
abbrev F.laws_toFlight : FuncId := 42
theorem C.laws_toFlight : Tryz.prog.funcs[F.laws_toFlight]? = some Tryz.f42 := Tryz.func42
abbrev F.impl_isOf : FuncId := 43
theorem C.impl_isOf : Tryz.prog.funcs[F.impl_isOf]? = some Tryz.f43 := Tryz.func43
abbrev F.impl_memberOk : FuncId := 44
theorem C.impl_memberOk : Tryz.prog.funcs[F.impl_memberOk]? = some Tryz.f44 := Tryz.func44
abbrev F.impl_within : FuncId := 45
theorem C.impl_within : Tryz.prog.funcs[F.impl_within]? = some Tryz.f45 := Tryz.func45
abbrev F.impl_copyRoll : FuncId := 46
theorem C.impl_copyRoll : Tryz.prog.funcs[F.impl_copyRoll]? = some Tryz.f46 := Tryz.func46
abbrev F.impl_RollOk : FuncId := 47
theorem C.impl_RollOk : Tryz.prog.funcs[F.impl_RollOk]? = some Tryz.f47 := Tryz.func47
abbrev F.impl_RollApply : FuncId := 48
theorem C.impl_RollApply : Tryz.prog.funcs[F.impl_RollApply]? = some Tryz.f48 := Tryz.func48
abbrev F.slices_EqualFunc_Rel : FuncId := 49
theorem C.slices_EqualFunc_Rel : Tryz.prog.funcs[F.slices_EqualFunc_Rel]? = some Tryz.f49 := Tryz.func49
abbrev F.impl_sameRel : FuncId := 50
theorem C.impl_sameRel : Tryz.prog.funcs[F.impl_sameRel]? = some Tryz.f50 := Tryz.func50
abbrev F.slices_Equal_int : FuncId := 51
theorem C.slices_Equal_int : Tryz.prog.funcs[F.slices_Equal_int]? = some Tryz.f51 := Tryz.func51
abbrev F.laws_eqMember : FuncId := 52
theorem C.laws_eqMember : Tryz.prog.funcs[F.laws_eqMember]? = some Tryz.f52 := Tryz.func52
abbrev F.laws_eqFlight : FuncId := 53
theorem C.laws_eqFlight : Tryz.prog.funcs[F.laws_eqFlight]? = some Tryz.f53 := Tryz.func53
abbrev F.spec_l1Min : FuncId := 54
theorem C.spec_l1Min : Tryz.prog.funcs[F.spec_l1Min]? = some Tryz.f54 := Tryz.func54
abbrev F.spec_HeldText : FuncId := 55
theorem C.spec_HeldText : Tryz.prog.funcs[F.spec_HeldText]? = some Tryz.f55 := Tryz.func55
abbrev F.spec_RollFind : FuncId := 56
theorem C.spec_RollFind : Tryz.prog.funcs[F.spec_RollFind]? = some Tryz.f56 := Tryz.func56
abbrev F.spec_l14Find : FuncId := 57
theorem C.spec_l14Find : Tryz.prog.funcs[F.spec_l14Find]? = some Tryz.f57 := Tryz.func57
abbrev F.slices_Contains_int : FuncId := 58
theorem C.slices_Contains_int : Tryz.prog.funcs[F.slices_Contains_int]? = some Tryz.f58 := Tryz.func58
abbrev F.slices_Equal_Entry : FuncId := 59
theorem C.slices_Equal_Entry : Tryz.prog.funcs[F.slices_Equal_Entry]? = some Tryz.f59 := Tryz.func59
abbrev F.impl_hasText : FuncId := 60
theorem C.impl_hasText : Tryz.prog.funcs[F.impl_hasText]? = some Tryz.f60 := Tryz.func60
abbrev F.laws_szDisk : FuncId := 61
theorem C.laws_szDisk : Tryz.prog.funcs[F.laws_szDisk]? = some Tryz.f61 := Tryz.func61
abbrev F.laws_szRaft : FuncId := 62
theorem C.laws_szRaft : Tryz.prog.funcs[F.laws_szRaft]? = some Tryz.f62 := Tryz.func62
abbrev F.laws_szRoll : FuncId := 63
theorem C.laws_szRoll : Tryz.prog.funcs[F.laws_szRoll]? = some Tryz.f63 := Tryz.func63
abbrev F.laws_szHeldS : FuncId := 64
theorem C.laws_szHeldS : Tryz.prog.funcs[F.laws_szHeldS]? = some Tryz.f64 := Tryz.func64
abbrev F.spec_DiskOk : FuncId := 65
theorem C.spec_DiskOk : Tryz.prog.funcs[F.spec_DiskOk]? = some Tryz.f65 := Tryz.func65
abbrev F.spec_RaftOk : FuncId := 66
theorem C.spec_RaftOk : Tryz.prog.funcs[F.spec_RaftOk]? = some Tryz.f66 := Tryz.func66
abbrev F.spec_HeldsOk : FuncId := 67
theorem C.spec_HeldsOk : Tryz.prog.funcs[F.spec_HeldsOk]? = some Tryz.f67 := Tryz.func67
abbrev F.spec_l7Nodes : FuncId := 68
theorem C.spec_l7Nodes : Tryz.prog.funcs[F.spec_l7Nodes]? = some Tryz.f68 := Tryz.func68
abbrev F.spec_CmdOk : FuncId := 69
theorem C.spec_CmdOk : Tryz.prog.funcs[F.spec_CmdOk]? = some Tryz.f69 := Tryz.func69
abbrev F.spec_l7Find : FuncId := 70
theorem C.spec_l7Find : Tryz.prog.funcs[F.spec_l7Find]? = some Tryz.f70 := Tryz.func70
abbrev F.spec_l7Put : FuncId := 71
theorem C.spec_l7Put : Tryz.prog.funcs[F.spec_l7Put]? = some Tryz.f71 := Tryz.func71
abbrev F.laws_toDisk : FuncId := 72
theorem C.laws_toDisk : Tryz.prog.funcs[F.laws_toDisk]? = some Tryz.f72 := Tryz.func72
abbrev F.laws_toRaft : FuncId := 73
theorem C.laws_toRaft : Tryz.prog.funcs[F.laws_toRaft]? = some Tryz.f73 := Tryz.func73
abbrev F.laws_toRoll : FuncId := 74
theorem C.laws_toRoll : Tryz.prog.funcs[F.laws_toRoll]? = some Tryz.f74 := Tryz.func74
abbrev F.laws_toHeldS : FuncId := 75
theorem C.laws_toHeldS : Tryz.prog.funcs[F.laws_toHeldS]? = some Tryz.f75 := Tryz.func75
abbrev F.impl_DiskOk : FuncId := 76
theorem C.impl_DiskOk : Tryz.prog.funcs[F.impl_DiskOk]? = some Tryz.f76 := Tryz.func76
abbrev F.impl_isBare : FuncId := 77
theorem C.impl_isBare : Tryz.prog.funcs[F.impl_isBare]? = some Tryz.f77 := Tryz.func77
abbrev F.impl_RaftOk : FuncId := 78
theorem C.impl_RaftOk : Tryz.prog.funcs[F.impl_RaftOk]? = some Tryz.f78 := Tryz.func78
abbrev F.impl_HeldsOk : FuncId := 79
theorem C.impl_HeldsOk : Tryz.prog.funcs[F.impl_HeldsOk]? = some Tryz.f79 := Tryz.func79
abbrev F.impl_copyInts : FuncId := 80
theorem C.impl_copyInts : Tryz.prog.funcs[F.impl_copyInts]? = some Tryz.f80 := Tryz.func80
abbrev F.impl_copyRel : FuncId := 81
theorem C.impl_copyRel : Tryz.prog.funcs[F.impl_copyRel]? = some Tryz.f81 := Tryz.func81
abbrev F.impl_isRelease : FuncId := 82
theorem C.impl_isRelease : Tryz.prog.funcs[F.impl_isRelease]? = some Tryz.f82 := Tryz.func82
abbrev F.impl_isSize : FuncId := 83
theorem C.impl_isSize : Tryz.prog.funcs[F.impl_isSize]? = some Tryz.f83 := Tryz.func83
abbrev F.impl_nodesAscend : FuncId := 84
theorem C.impl_nodesAscend : Tryz.prog.funcs[F.impl_nodesAscend]? = some Tryz.f84 := Tryz.func84
abbrev F.impl_CmdOk : FuncId := 85
theorem C.impl_CmdOk : Tryz.prog.funcs[F.impl_CmdOk]? = some Tryz.f85 := Tryz.func85
abbrev F.impl_Roll_announce : FuncId := 86
theorem C.impl_Roll_announce : Tryz.prog.funcs[F.impl_Roll_announce]? = some Tryz.f86 := Tryz.func86
abbrev F.impl_Roll_turn : FuncId := 87
theorem C.impl_Roll_turn : Tryz.prog.funcs[F.impl_Roll_turn]? = some Tryz.f87 := Tryz.func87
abbrev F.laws_eqDisk : FuncId := 88
theorem C.laws_eqDisk : Tryz.prog.funcs[F.laws_eqDisk]? = some Tryz.f88 := Tryz.func88
abbrev F.laws_eqRaft : FuncId := 89
theorem C.laws_eqRaft : Tryz.prog.funcs[F.laws_eqRaft]? = some Tryz.f89 := Tryz.func89
abbrev F.laws_eqRoll : FuncId := 90
theorem C.laws_eqRoll : Tryz.prog.funcs[F.laws_eqRoll]? = some Tryz.f90 := Tryz.func90
abbrev F.laws_eqHeldS : FuncId := 91
theorem C.laws_eqHeldS : Tryz.prog.funcs[F.laws_eqHeldS]? = some Tryz.f91 := Tryz.func91
abbrev F.spec_ParcelWhole : FuncId := 92
theorem C.spec_ParcelWhole : Tryz.prog.funcs[F.spec_ParcelWhole]? = some Tryz.f92 := Tryz.func92
abbrev F.slices_Index_int : FuncId := 93
theorem C.slices_Index_int : Tryz.prog.funcs[F.slices_Index_int]? = some Tryz.f93 := Tryz.func93
abbrev F.impl_RollFind : FuncId := 94
theorem C.impl_RollFind : Tryz.prog.funcs[F.impl_RollFind]? = some Tryz.f94 := Tryz.func94
abbrev F.impl_HeldText : FuncId := 95
theorem C.impl_HeldText : Tryz.prog.funcs[F.impl_HeldText]? = some Tryz.f95 := Tryz.func95
abbrev F.impl_heldAt : FuncId := 96
theorem C.impl_heldAt : Tryz.prog.funcs[F.impl_heldAt]? = some Tryz.f96 := Tryz.func96
abbrev F.laws_szFileS : FuncId := 97
theorem C.laws_szFileS : Tryz.prog.funcs[F.laws_szFileS]? = some Tryz.f97 := Tryz.func97
abbrev F.laws_szHard : FuncId := 98
theorem C.laws_szHard : Tryz.prog.funcs[F.laws_szHard]? = some Tryz.f98 := Tryz.func98
abbrev F.laws_szIntS : FuncId := 99
theorem C.laws_szIntS : Tryz.prog.funcs[F.laws_szIntS]? = some Tryz.f99 := Tryz.func99
abbrev F.laws_szRelS : FuncId := 100
theorem C.laws_szRelS : Tryz.prog.funcs[F.laws_szRelS]? = some Tryz.f100 := Tryz.func100
abbrev F.laws_szHeld : FuncId := 101
theorem C.laws_szHeld : Tryz.prog.funcs[F.laws_szHeld]? = some Tryz.f101 := Tryz.func101
abbrev F.spec_l3Size : FuncId := 102
theorem C.spec_l3Size : Tryz.prog.funcs[F.spec_l3Size]? = some Tryz.f102 := Tryz.func102
abbrev F.spec_l3Name : FuncId := 103
theorem C.spec_l3Name : Tryz.prog.funcs[F.spec_l3Name]? = some Tryz.f103 := Tryz.func103
abbrev F.spec_HardOk : FuncId := 104
theorem C.spec_HardOk : Tryz.prog.funcs[F.spec_HardOk]? = some Tryz.f104 := Tryz.func104
abbrev F.spec_l10End : FuncId := 105
theorem C.spec_l10End : Tryz.prog.funcs[F.spec_l10End]? = some Tryz.f105 := Tryz.func105
abbrev F.spec_l7Has : FuncId := 106
theorem C.spec_l7Has : Tryz.prog.funcs[F.spec_l7Has]? = some Tryz.f106 := Tryz.func106
abbrev F.spec_ParcelOk : FuncId := 107
theorem C.spec_ParcelOk : Tryz.prog.funcs[F.spec_ParcelOk]? = some Tryz.f107 := Tryz.func107
abbrev F.laws_toFileS : FuncId := 108
theorem C.laws_toFileS : Tryz.prog.funcs[F.laws_toFileS]? = some Tryz.f108 := Tryz.func108
abbrev F.laws_toHard : FuncId := 109
theorem C.laws_toHard : Tryz.prog.funcs[F.laws_toHard]? = some Tryz.f109 := Tryz.func109
abbrev F.laws_toIntS : FuncId := 110
theorem C.laws_toIntS : Tryz.prog.funcs[F.laws_toIntS]? = some Tryz.f110 := Tryz.func110
abbrev F.laws_toRelS : FuncId := 111
theorem C.laws_toRelS : Tryz.prog.funcs[F.laws_toRelS]? = some Tryz.f111 := Tryz.func111
abbrev F.laws_toHeld : FuncId := 112
theorem C.laws_toHeld : Tryz.prog.funcs[F.laws_toHeld]? = some Tryz.f112 := Tryz.func112
abbrev F.impl_isFile : FuncId := 113
theorem C.impl_isFile : Tryz.prog.funcs[F.impl_isFile]? = some Tryz.f113 := Tryz.func113
abbrev F.impl_sizeOf : FuncId := 114
theorem C.impl_sizeOf : Tryz.prog.funcs[F.impl_sizeOf]? = some Tryz.f114 := Tryz.func114
abbrev F.impl_HardOk : FuncId := 115
theorem C.impl_HardOk : Tryz.prog.funcs[F.impl_HardOk]? = some Tryz.f115 := Tryz.func115
abbrev F.impl_numbersIn : FuncId := 116
theorem C.impl_numbersIn : Tryz.prog.funcs[F.impl_numbersIn]? = some Tryz.f116 := Tryz.func116
abbrev F.impl_ParcelOk : FuncId := 117
theorem C.impl_ParcelOk : Tryz.prog.funcs[F.impl_ParcelOk]? = some Tryz.f117 := Tryz.func117
abbrev F.impl_isNode : FuncId := 118
theorem C.impl_isNode : Tryz.prog.funcs[F.impl_isNode]? = some Tryz.f118 := Tryz.func118
abbrev F.impl_relAt : FuncId := 119
theorem C.impl_relAt : Tryz.prog.funcs[F.impl_relAt]? = some Tryz.f119 := Tryz.func119
abbrev F.slices_Sort_int : FuncId := 120
theorem C.slices_Sort_int : Tryz.prog.funcs[F.slices_Sort_int]? = some Tryz.f120 := Tryz.func120
abbrev F.laws_eqFileS : FuncId := 121
theorem C.laws_eqFileS : Tryz.prog.funcs[F.laws_eqFileS]? = some Tryz.f121 := Tryz.func121
abbrev F.laws_eqHard : FuncId := 122
theorem C.laws_eqHard : Tryz.prog.funcs[F.laws_eqHard]? = some Tryz.f122 := Tryz.func122
abbrev F.laws_eqIntS : FuncId := 123
theorem C.laws_eqIntS : Tryz.prog.funcs[F.laws_eqIntS]? = some Tryz.f123 := Tryz.func123
abbrev F.laws_eqRelS : FuncId := 124
theorem C.laws_eqRelS : Tryz.prog.funcs[F.laws_eqRelS]? = some Tryz.f124 := Tryz.func124
abbrev F.laws_eqHeld : FuncId := 125
theorem C.laws_eqHeld : Tryz.prog.funcs[F.laws_eqHeld]? = some Tryz.f125 := Tryz.func125
abbrev F.spec_Sha : FuncId := 126
theorem C.spec_Sha : Tryz.prog.funcs[F.spec_Sha]? = some Tryz.f126 := Tryz.func126
abbrev F.impl_ParcelWhole : FuncId := 127
theorem C.impl_ParcelWhole : Tryz.prog.funcs[F.impl_ParcelWhole]? = some Tryz.f127 := Tryz.func127
abbrev F.slices_IndexFunc_Held : FuncId := 128
theorem C.slices_IndexFunc_Held : Tryz.prog.funcs[F.slices_IndexFunc_Held]? = some Tryz.f128 := Tryz.func128
abbrev F.impl_heldAt_1 : FuncId := 129
theorem C.impl_heldAt_1 : Tryz.prog.funcs[F.impl_heldAt_1]? = some Tryz.f129 := Tryz.func129
abbrev F.laws_szFile : FuncId := 130
theorem C.laws_szFile : Tryz.prog.funcs[F.laws_szFile]? = some Tryz.f130 := Tryz.func130
abbrev F.laws_szEntryS : FuncId := 131
theorem C.laws_szEntryS : Tryz.prog.funcs[F.laws_szEntryS]? = some Tryz.f131 := Tryz.func131
abbrev F.laws_szRel : FuncId := 132
theorem C.laws_szRel : Tryz.prog.funcs[F.laws_szRel]? = some Tryz.f132 := Tryz.func132
abbrev F.laws_szParcel : FuncId := 133
theorem C.laws_szParcel : Tryz.prog.funcs[F.laws_szParcel]? = some Tryz.f133 := Tryz.func133
abbrev F.spec_l1Whole : FuncId := 134
theorem C.spec_l1Whole : Tryz.prog.funcs[F.spec_l1Whole]? = some Tryz.f134 := Tryz.func134
abbrev F.spec_l6Entry : FuncId := 135
theorem C.spec_l6Entry : Tryz.prog.funcs[F.spec_l6Entry]? = some Tryz.f135 := Tryz.func135
abbrev F.spec_PartsOf : FuncId := 136
theorem C.spec_PartsOf : Tryz.prog.funcs[F.spec_PartsOf]? = some Tryz.f136 := Tryz.func136
abbrev F.spec_l9Long : FuncId := 137
theorem C.spec_l9Long : Tryz.prog.funcs[F.spec_l9Long]? = some Tryz.f137 := Tryz.func137
abbrev F.laws_toFile : FuncId := 138
theorem C.laws_toFile : Tryz.prog.funcs[F.laws_toFile]? = some Tryz.f138 := Tryz.func138
abbrev F.laws_toEntryS : FuncId := 139
theorem C.laws_toEntryS : Tryz.prog.funcs[F.laws_toEntryS]? = some Tryz.f139 := Tryz.func139
abbrev F.laws_toRel : FuncId := 140
theorem C.laws_toRel : Tryz.prog.funcs[F.laws_toRel]? = some Tryz.f140 := Tryz.func140
abbrev F.laws_toParcel : FuncId := 141
theorem C.laws_toParcel : Tryz.prog.funcs[F.laws_toParcel]? = some Tryz.f141 := Tryz.func141
abbrev F.impl_lastTerm : FuncId := 142
theorem C.impl_lastTerm : Tryz.prog.funcs[F.impl_lastTerm]? = some Tryz.f142 := Tryz.func142
abbrev F.impl_isWhole : FuncId := 143
theorem C.impl_isWhole : Tryz.prog.funcs[F.impl_isWhole]? = some Tryz.f143 := Tryz.func143
abbrev F.impl_PartsOf : FuncId := 144
theorem C.impl_PartsOf : Tryz.prog.funcs[F.impl_PartsOf]? = some Tryz.f144 := Tryz.func144
abbrev F.impl_partLong : FuncId := 145
theorem C.impl_partLong : Tryz.prog.funcs[F.impl_partLong]? = some Tryz.f145 := Tryz.func145
abbrev F.slices_IndexFunc_Rel : FuncId := 146
theorem C.slices_IndexFunc_Rel : Tryz.prog.funcs[F.slices_IndexFunc_Rel]? = some Tryz.f146 := Tryz.func146
abbrev F.impl_relAt_1 : FuncId := 147
theorem C.impl_relAt_1 : Tryz.prog.funcs[F.impl_relAt_1]? = some Tryz.f147 := Tryz.func147
abbrev F.slices_pdqsortOrdered_int : FuncId := 148
theorem C.slices_pdqsortOrdered_int : Tryz.prog.funcs[F.slices_pdqsortOrdered_int]? = some Tryz.f148 := Tryz.func148
abbrev F.math_bits_Len : FuncId := 149
theorem C.math_bits_Len : Tryz.prog.funcs[F.math_bits_Len]? = some Tryz.f149 := Tryz.func149
abbrev F.laws_eqFile : FuncId := 150
theorem C.laws_eqFile : Tryz.prog.funcs[F.laws_eqFile]? = some Tryz.f150 := Tryz.func150
abbrev F.laws_eqEntryS : FuncId := 151
theorem C.laws_eqEntryS : Tryz.prog.funcs[F.laws_eqEntryS]? = some Tryz.f151 := Tryz.func151
abbrev F.laws_eqRel : FuncId := 152
theorem C.laws_eqRel : Tryz.prog.funcs[F.laws_eqRel]? = some Tryz.f152 := Tryz.func152
abbrev F.laws_eqParcel : FuncId := 153
theorem C.laws_eqParcel : Tryz.prog.funcs[F.laws_eqParcel]? = some Tryz.f153 := Tryz.func153
abbrev F.spec_l2Block : FuncId := 154
theorem C.spec_l2Block : Tryz.prog.funcs[F.spec_l2Block]? = some Tryz.f154 := Tryz.func154
abbrev F.strings_Join : FuncId := 155
theorem C.strings_Join : Tryz.prog.funcs[F.strings_Join]? = some Tryz.f155 := Tryz.func155
abbrev F.impl_ParcelLacks : FuncId := 156
theorem C.impl_ParcelLacks : Tryz.prog.funcs[F.impl_ParcelLacks]? = some Tryz.f156 := Tryz.func156
abbrev F.impl_Sha : FuncId := 157
theorem C.impl_Sha : Tryz.prog.funcs[F.impl_Sha]? = some Tryz.f157 := Tryz.func157
abbrev F.laws_szEntry : FuncId := 158
theorem C.laws_szEntry : Tryz.prog.funcs[F.laws_szEntry]? = some Tryz.f158 := Tryz.func158
abbrev F.laws_szStringS : FuncId := 159
theorem C.laws_szStringS : Tryz.prog.funcs[F.laws_szStringS]? = some Tryz.f159 := Tryz.func159
abbrev F.laws_toEntry : FuncId := 160
theorem C.laws_toEntry : Tryz.prog.funcs[F.laws_toEntry]? = some Tryz.f160 := Tryz.func160
abbrev F.laws_toStringS : FuncId := 161
theorem C.laws_toStringS : Tryz.prog.funcs[F.laws_toStringS]? = some Tryz.f161 := Tryz.func161
abbrev F.slices_insertionSortOrdered_int : FuncId := 162
theorem C.slices_insertionSortOrdered_int : Tryz.prog.funcs[F.slices_insertionSortOrdered_int]? = some Tryz.f162 := Tryz.func162
abbrev F.slices_heapSortOrdered_int : FuncId := 163
theorem C.slices_heapSortOrdered_int : Tryz.prog.funcs[F.slices_heapSortOrdered_int]? = some Tryz.f163 := Tryz.func163
abbrev F.slices_breakPatternsOrdered_int : FuncId := 164
theorem C.slices_breakPatternsOrdered_int : Tryz.prog.funcs[F.slices_breakPatternsOrdered_int]? = some Tryz.f164 := Tryz.func164
abbrev F.slices_choosePivotOrdered_int : FuncId := 165
theorem C.slices_choosePivotOrdered_int : Tryz.prog.funcs[F.slices_choosePivotOrdered_int]? = some Tryz.f165 := Tryz.func165
abbrev F.slices_reverseRangeOrdered_int : FuncId := 166
theorem C.slices_reverseRangeOrdered_int : Tryz.prog.funcs[F.slices_reverseRangeOrdered_int]? = some Tryz.f166 := Tryz.func166
abbrev F.slices_partialInsertionSortOrdered_int : FuncId := 167
theorem C.slices_partialInsertionSortOrdered_int : Tryz.prog.funcs[F.slices_partialInsertionSortOrdered_int]? = some Tryz.f167 := Tryz.func167
abbrev F.cmp_Less_int : FuncId := 168
theorem C.cmp_Less_int : Tryz.prog.funcs[F.cmp_Less_int]? = some Tryz.f168 := Tryz.func168
abbrev F.slices_partitionEqualOrdered_int : FuncId := 169
theorem C.slices_partitionEqualOrdered_int : Tryz.prog.funcs[F.slices_partitionEqualOrdered_int]? = some Tryz.f169 := Tryz.func169
abbrev F.slices_partitionOrdered_int : FuncId := 170
theorem C.slices_partitionOrdered_int : Tryz.prog.funcs[F.slices_partitionOrdered_int]? = some Tryz.f170 := Tryz.func170
abbrev F.math_bits_Len32 : FuncId := 171
theorem C.math_bits_Len32 : Tryz.prog.funcs[F.math_bits_Len32]? = some Tryz.f171 := Tryz.func171
abbrev F.math_bits_Len64 : FuncId := 172
theorem C.math_bits_Len64 : Tryz.prog.funcs[F.math_bits_Len64]? = some Tryz.f172 := Tryz.func172
abbrev F.laws_eqEntry : FuncId := 173
theorem C.laws_eqEntry : Tryz.prog.funcs[F.laws_eqEntry]? = some Tryz.f173 := Tryz.func173
abbrev F.laws_eqStringS : FuncId := 174
theorem C.laws_eqStringS : Tryz.prog.funcs[F.laws_eqStringS]? = some Tryz.f174 := Tryz.func174
abbrev F.spec_l2Turn : FuncId := 175
theorem C.spec_l2Turn : Tryz.prog.funcs[F.spec_l2Turn]? = some Tryz.f175 := Tryz.func175
abbrev F.spec_l2Low : FuncId := 176
theorem C.spec_l2Low : Tryz.prog.funcs[F.spec_l2Low]? = some Tryz.f176 := Tryz.func176
abbrev F.spec_l2Keys : FuncId := 177
theorem C.spec_l2Keys : Tryz.prog.funcs[F.spec_l2Keys]? = some Tryz.f177 := Tryz.func177
abbrev F.strings_Builder_Grow : FuncId := 178
theorem C.strings_Builder_Grow : Tryz.prog.funcs[F.strings_Builder_Grow]? = some Tryz.f178 := Tryz.func178
abbrev F.strings_Builder_WriteString : FuncId := 179
theorem C.strings_Builder_WriteString : Tryz.prog.funcs[F.strings_Builder_WriteString]? = some Tryz.f179 := Tryz.func179
abbrev F.strings_Builder_String : FuncId := 180
theorem C.strings_Builder_String : Tryz.prog.funcs[F.strings_Builder_String]? = some Tryz.f180 := Tryz.func180
abbrev F.impl_firstWords : FuncId := 181
theorem C.impl_firstWords : Tryz.prog.funcs[F.impl_firstWords]? = some Tryz.f181 := Tryz.func181
abbrev F.impl_round : FuncId := 182
theorem C.impl_round : Tryz.prog.funcs[F.impl_round]? = some Tryz.f182 := Tryz.func182
abbrev F.laws_szCmd : FuncId := 183
theorem C.laws_szCmd : Tryz.prog.funcs[F.laws_szCmd]? = some Tryz.f183 := Tryz.func183
abbrev F.laws_toCmd : FuncId := 184
theorem C.laws_toCmd : Tryz.prog.funcs[F.laws_toCmd]? = some Tryz.f184 := Tryz.func184
abbrev F.slices_siftDownOrdered_int : FuncId := 185
theorem C.slices_siftDownOrdered_int : Tryz.prog.funcs[F.slices_siftDownOrdered_int]? = some Tryz.f185 := Tryz.func185
abbrev F.slices_nextPowerOfTwo : FuncId := 186
theorem C.slices_nextPowerOfTwo : Tryz.prog.funcs[F.slices_nextPowerOfTwo]? = some Tryz.f186 := Tryz.func186
abbrev F.slices_xorshift_Next : FuncId := 187
theorem C.slices_xorshift_Next : Tryz.prog.funcs[F.slices_xorshift_Next]? = some Tryz.f187 := Tryz.func187
abbrev F.slices_medianAdjacentOrdered_int : FuncId := 188
theorem C.slices_medianAdjacentOrdered_int : Tryz.prog.funcs[F.slices_medianAdjacentOrdered_int]? = some Tryz.f188 := Tryz.func188
abbrev F.slices_medianOrdered_int : FuncId := 189
theorem C.slices_medianOrdered_int : Tryz.prog.funcs[F.slices_medianOrdered_int]? = some Tryz.f189 := Tryz.func189
abbrev F.cmp_isNaN_int : FuncId := 190
theorem C.cmp_isNaN_int : Tryz.prog.funcs[F.cmp_isNaN_int]? = some Tryz.f190 := Tryz.func190
abbrev F.laws_eqCmd : FuncId := 191
theorem C.laws_eqCmd : Tryz.prog.funcs[F.laws_eqCmd]? = some Tryz.f191 := Tryz.func191
abbrev F.strings_Builder_copyCheck : FuncId := 192
theorem C.strings_Builder_copyCheck : Tryz.prog.funcs[F.strings_Builder_copyCheck]? = some Tryz.f192 := Tryz.func192
abbrev F.strings_Builder_grow : FuncId := 193
theorem C.strings_Builder_grow : Tryz.prog.funcs[F.strings_Builder_grow]? = some Tryz.f193 := Tryz.func193
abbrev F.impl_constants : FuncId := 194
theorem C.impl_constants : Tryz.prog.funcs[F.impl_constants]? = some Tryz.f194 := Tryz.func194
abbrev F.impl_expanded : FuncId := 195
theorem C.impl_expanded : Tryz.prog.funcs[F.impl_expanded]? = some Tryz.f195 := Tryz.func195
abbrev F.impl_turnRight : FuncId := 196
theorem C.impl_turnRight : Tryz.prog.funcs[F.impl_turnRight]? = some Tryz.f196 := Tryz.func196
abbrev F.slices_order2Ordered_int : FuncId := 197
theorem C.slices_order2Ordered_int : Tryz.prog.funcs[F.slices_order2Ordered_int]? = some Tryz.f197 := Tryz.func197
abbrev F.internal_abi_NoEscape : FuncId := 198
theorem C.internal_abi_NoEscape : Tryz.prog.funcs[F.internal_abi_NoEscape]? = some Tryz.f198 := Tryz.func198
abbrev F.internal_bytealg_MakeNoZero : FuncId := 199
theorem C.internal_bytealg_MakeNoZero : Tryz.prog.funcs[F.internal_bytealg_MakeNoZero]? = some Tryz.f199 := Tryz.func199
abbrev F.internal_abi_Type_Align : FuncId := 212
theorem C.internal_abi_Type_Align : Tryz.prog.funcs[F.internal_abi_Type_Align]? = some Tryz.f212 := Tryz.func212
abbrev F.internal_runtime_maps_unhashableTypeError_Error : FuncId := 213
theorem C.internal_runtime_maps_unhashableTypeError_Error : Tryz.prog.funcs[F.internal_runtime_maps_unhashableTypeError_Error]? = some Tryz.f213 := Tryz.func213
abbrev F.internal_runtime_maps_unhashableTypeError_RuntimeError : FuncId := 214
theorem C.internal_runtime_maps_unhashableTypeError_RuntimeError : Tryz.prog.funcs[F.internal_runtime_maps_unhashableTypeError_RuntimeError]? = some Tryz.f214 := Tryz.func214
abbrev F.strings_Builder_Reset : FuncId := 215
theorem C.strings_Builder_Reset : Tryz.prog.funcs[F.strings_Builder_Reset]? = some Tryz.f215 := Tryz.func215
abbrev F.internal_abi_Kind_String : FuncId := 216
theorem C.internal_abi_Kind_String : Tryz.prog.funcs[F.internal_abi_Kind_String]? = some Tryz.f216 := Tryz.func216
abbrev Y.error : TypeId := 219
abbrev Y.errorI : TypeId := 218
abbrev Y.int64 : TypeId := 2
abbrev Y.int : TypeId := 3
abbrev Y.bool : TypeId := 4
abbrev Y.uint8 : TypeId := 5
abbrev Y.abi_BoundsErrorCode : TypeId := 6
abbrev Y.runtime_boundsError : TypeId := 8
abbrev Y.string : TypeId := 9
abbrev Y.runtime_errorString : TypeId := 10
abbrev Y.runtime_plainError : TypeId := 11
abbrev Y.uintptr : TypeId := 12
abbrev Y.runtime_errorAddressString : TypeId := 14
abbrev Y.int32 : TypeId := 21
abbrev Y.sl_laws_Member : TypeId := 22
abbrev Y.sl_laws_Flight : TypeId := 23
abbrev Y.laws_Fleet : TypeId := 25
abbrev Y.sl_impl_Member : TypeId := 28
abbrev Y.sl_impl_Flight : TypeId := 29
abbrev Y.impl_Fleet : TypeId := 31
abbrev Y.sl_impl_File : TypeId := 37
abbrev Y.impl_Disk : TypeId := 39
abbrev Y.sl_impl_Entry : TypeId := 40
abbrev Y.impl_Hard : TypeId := 42
abbrev Y.sl_int : TypeId := 43
abbrev Y.impl_Raft : TypeId := 45
abbrev Y.sl_impl_Rel : TypeId := 46
abbrev Y.impl_Roll : TypeId := 48
abbrev Y.sl_impl_Held : TypeId := 49
abbrev Y.impl_Member : TypeId := 51
abbrev Y.sl_impl_Cmd : TypeId := 52
abbrev Y.impl_Cmd : TypeId := 54
abbrev Y.impl_Entry : TypeId := 56
abbrev Y.sl_laws_File : TypeId := 67
abbrev Y.laws_Disk : TypeId := 69
abbrev Y.sl_laws_Entry : TypeId := 70
abbrev Y.laws_Hard : TypeId := 72
abbrev Y.laws_Raft : TypeId := 74
abbrev Y.sl_laws_Rel : TypeId := 75
abbrev Y.laws_Roll : TypeId := 77
abbrev Y.sl_laws_Held : TypeId := 78
abbrev Y.laws_Member : TypeId := 80
abbrev Y.laws_Flight : TypeId := 83
abbrev Y.impl_Flight : TypeId := 87
abbrev Y.impl_Rel : TypeId := 93
abbrev Y.sl_string : TypeId := 107
abbrev Y.impl_Parcel : TypeId := 109
abbrev Y.impl_Held : TypeId := 111
abbrev Y.laws_Parcel : TypeId := 143
abbrev Y.laws_Held : TypeId := 145
abbrev Y.impl_File : TypeId := 148
abbrev Y.sl_uint8 : TypeId := 164
abbrev Y.laws_File : TypeId := 169
abbrev Y.laws_Rel : TypeId := 172
abbrev Y.uint : TypeId := 185
abbrev Y.laws_Cmd : TypeId := 192
abbrev Y.laws_Entry : TypeId := 194
abbrev Y.slices_sortedHint : TypeId := 199
abbrev Y.uint32 : TypeId := 208
abbrev Y.uint64 : TypeId := 210
abbrev Y.ar8_int : TypeId := 223
abbrev Y.slices_xorshift : TypeId := 228
abbrev Y.ar64_int : TypeId := 236
abbrev Y.abi_TFlag : TypeId := 251
abbrev Y.abi_Kind : TypeId := 252
abbrev Y.abi_NameOff : TypeId := 254
abbrev Y.abi_TypeOff : TypeId := 255

end Go.TL
