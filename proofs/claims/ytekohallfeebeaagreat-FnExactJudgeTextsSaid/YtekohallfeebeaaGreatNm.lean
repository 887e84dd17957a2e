/- The functions by name, and facts of the type table: printed by a program of this work out of the translation. No conditions. -/
import Derived.Test.YtekohallfeebeaaGreatProg
import Derived.Test.YtekohallfeebeaaGreatTGo3
import Derived.KernelRfl
namespace Go.TL
open Go.Proofs Go.RowKit

@[go_sem] theorem t2_sz : szT Tryz.prog 2 = some 1 := by kernel_rfl
@[go_sem] theorem t2_by : bytesT Tryz.prog 2 = some 8 := by kernel_rfl
@[go_sem] theorem t2_ag : aggT Tryz.prog 2 = some false := by kernel_rfl
@[go_sem] theorem t2_ze : zeroT Tryz.prog 2 = some [.v (.int .i64 0)] := by kernel_rfl
@[go_sem] theorem t2_un : Tryz.prog.underlying 2 = some (.int .i64) := by kernel_rfl
@[go_sem] theorem t2_ec (m : Nat) (k : IntKind) (a b : Int) : eqC Tryz.prog (m + 1) 2 [.int k a] [.int k b] = some (decide (a = b)) := eqC_int t2_un k a b
@[go_sem] theorem t3_sz : szT Tryz.prog 3 = some 1 := by kernel_rfl
@[go_sem] theorem t3_by : bytesT Tryz.prog 3 = some 8 := by kernel_rfl
@[go_sem] theorem t3_ag : aggT Tryz.prog 3 = some false := by kernel_rfl
@[go_sem] theorem t3_ze : zeroT Tryz.prog 3 = some [.v (.int .i64 0)] := by kernel_rfl
@[go_sem] theorem t3_un : Tryz.prog.underlying 3 = some (.int .i64) := by kernel_rfl
@[go_sem] theorem t3_ec (m : Nat) (k : IntKind) (a b : Int) : eqC Tryz.prog (m + 1) 3 [.int k a] [.int k b] = some (decide (a = b)) := eqC_int t3_un k a b
@[go_sem] theorem t4_sz : szT Tryz.prog 4 = some 1 := by kernel_rfl
@[go_sem] theorem t4_by : bytesT Tryz.prog 4 = some 1 := by kernel_rfl
@[go_sem] theorem t4_ag : aggT Tryz.prog 4 = some false := by kernel_rfl
@[go_sem] theorem t4_ze : zeroT Tryz.prog 4 = some [.v (.bool false)] := by kernel_rfl
@[go_sem] theorem t4_un : Tryz.prog.underlying 4 = some .bool := by kernel_rfl
@[go_sem] theorem t4_ec (m : Nat) (a b : Bool) : eqC Tryz.prog (m + 1) 4 [.bool a] [.bool b] = some (a == b) := eqC_bool t4_un a b
@[go_sem] theorem t4_beq (xo yo : Operand) (p q : Prop) [Decidable p] [Decidable q] : binT Tryz.prog .eql 4 xo yo (.v (.bool (decide p))) (.v (.bool (decide q))) = some (.v (.bool (decide (p ↔ q)))) := b_beq xo yo t4_un p q
@[go_sem] theorem t4_bne (xo yo : Operand) (p q : Prop) [Decidable p] [Decidable q] : binT Tryz.prog .neq 4 xo yo (.v (.bool (decide p))) (.v (.bool (decide q))) = some (.v (.bool (decide (¬ (p ↔ q))))) := b_bne xo yo t4_un p q
@[go_sem] theorem t5_sz : szT Tryz.prog 5 = some 1 := by kernel_rfl
@[go_sem] theorem t5_by : bytesT Tryz.prog 5 = some 1 := by kernel_rfl
@[go_sem] theorem t5_ag : aggT Tryz.prog 5 = some false := by kernel_rfl
@[go_sem] theorem t5_ze : zeroT Tryz.prog 5 = some [.v (.int .u8 0)] := by kernel_rfl
@[go_sem] theorem t5_un : Tryz.prog.underlying 5 = some (.int .u8) := by kernel_rfl
@[go_sem] theorem t5_ec (m : Nat) (k : IntKind) (a b : Int) : eqC Tryz.prog (m + 1) 5 [.int k a] [.int k b] = some (decide (a = b)) := eqC_int t5_un k a b
@[go_sem] theorem t9_sz : szT Tryz.prog 9 = some 1 := by kernel_rfl
@[go_sem] theorem t9_by : bytesT Tryz.prog 9 = some 16 := by kernel_rfl
@[go_sem] theorem t9_ag : aggT Tryz.prog 9 = some false := by kernel_rfl
@[go_sem] theorem t9_ze : zeroT Tryz.prog 9 = some [.v (.string ⟨#[]⟩)] := by kernel_rfl
@[go_sem] theorem t9_un : Tryz.prog.underlying 9 = some .string := by kernel_rfl
@[go_sem] theorem t9_ec (m : Nat) (a b : ByteArray) : eqC Tryz.prog (m + 1) 9 [.string a] [.string b] = some (decide (a = b)) := eqC_str t9_un a b
@[go_sem] theorem t9_ni : notInt Tryz.prog 9 = true := by kernel_rfl
@[go_sem] theorem t12_sz : szT Tryz.prog 12 = some 1 := by kernel_rfl
@[go_sem] theorem t12_by : bytesT Tryz.prog 12 = some 8 := by kernel_rfl
@[go_sem] theorem t12_ag : aggT Tryz.prog 12 = some false := by kernel_rfl
@[go_sem] theorem t12_ze : zeroT Tryz.prog 12 = some [.v (.int .u64 0)] := by kernel_rfl
@[go_sem] theorem t12_un : Tryz.prog.underlying 12 = some (.int .u64) := by kernel_rfl
@[go_sem] theorem t12_ec (m : Nat) (k : IntKind) (a b : Int) : eqC Tryz.prog (m + 1) 12 [.int k a] [.int k b] = some (decide (a = b)) := eqC_int t12_un k a b
@[go_sem] theorem t13_sz : szT Tryz.prog 13 = some 2 := by kernel_rfl
@[go_sem] theorem t13_by : bytesT Tryz.prog 13 = some 24 := by kernel_rfl
@[go_sem] theorem t13_ag : aggT Tryz.prog 13 = some true := by kernel_rfl
@[go_sem] theorem t13_ze : zeroT Tryz.prog 13 = some [.v (.string ⟨#[]⟩), .v (.int .u64 0)] := by kernel_rfl
@[go_sem] theorem t13_f0 : fldT Tryz.prog 13 0 = some (0, 1, 9) := by kernel_rfl
@[go_sem] theorem t13_f1 : fldT Tryz.prog 13 1 = some (1, 1, 12) := by kernel_rfl
@[go_sem] theorem t13_fo : fldsOf Tryz.prog 13 = some [(0, 1), (1, 1)] := by kernel_rfl
@[go_sem] theorem t21_sz : szT Tryz.prog 21 = some 1 := by kernel_rfl
@[go_sem] theorem t21_by : bytesT Tryz.prog 21 = some 4 := by kernel_rfl
@[go_sem] theorem t21_ag : aggT Tryz.prog 21 = some false := by kernel_rfl
@[go_sem] theorem t21_ze : zeroT Tryz.prog 21 = some [.v (.int .i32 0)] := by kernel_rfl
@[go_sem] theorem t21_un : Tryz.prog.underlying 21 = some (.int .i32) := by kernel_rfl
@[go_sem] theorem t21_ec (m : Nat) (k : IntKind) (a b : Int) : eqC Tryz.prog (m + 1) 21 [.int k a] [.int k b] = some (decide (a = b)) := eqC_int t21_un k a b
@[go_sem] theorem t22_sz : szT Tryz.prog 22 = some 1 := by kernel_rfl
@[go_sem] theorem t22_by : bytesT Tryz.prog 22 = some 24 := by kernel_rfl
@[go_sem] theorem t22_ag : aggT Tryz.prog 22 = some false := by kernel_rfl
@[go_sem] theorem t22_ze : zeroT Tryz.prog 22 = some [.v (.slice none 0 0)] := by kernel_rfl
@[go_sem] theorem t22_el : elemT Tryz.prog 22 = some 102 := by kernel_rfl
@[go_sem] theorem t22_un : Tryz.prog.underlying 22 = some (.slice 102) := by kernel_rfl
@[go_sem] theorem t22_ni : notInt Tryz.prog 22 = true := by kernel_rfl
@[go_sem] theorem t23_sz : szT Tryz.prog 23 = some 1 := by kernel_rfl
@[go_sem] theorem t23_by : bytesT Tryz.prog 23 = some 24 := by kernel_rfl
@[go_sem] theorem t23_ag : aggT Tryz.prog 23 = some false := by kernel_rfl
@[go_sem] theorem t23_ze : zeroT Tryz.prog 23 = some [.v (.slice none 0 0)] := by kernel_rfl
@[go_sem] theorem t23_el : elemT Tryz.prog 23 = some 104 := by kernel_rfl
@[go_sem] theorem t23_un : Tryz.prog.underlying 23 = some (.slice 104) := by kernel_rfl
@[go_sem] theorem t23_ni : notInt Tryz.prog 23 = true := by kernel_rfl
@[go_sem] theorem t24_sz : szT Tryz.prog 24 = some 3 := by kernel_rfl
@[go_sem] theorem t24_by : bytesT Tryz.prog 24 = some 56 := by kernel_rfl
@[go_sem] theorem t24_ag : aggT Tryz.prog 24 = some true := by kernel_rfl
@[go_sem] theorem t24_ze : zeroT Tryz.prog 24 = some [.v (.int .i64 0), .v (.slice none 0 0), .v (.slice none 0 0)] := by kernel_rfl
@[go_sem] theorem t24_f0 : fldT Tryz.prog 24 0 = some (0, 1, 3) := by kernel_rfl
@[go_sem] theorem t24_f1 : fldT Tryz.prog 24 1 = some (1, 1, 22) := by kernel_rfl
@[go_sem] theorem t24_f2 : fldT Tryz.prog 24 2 = some (2, 1, 23) := by kernel_rfl
@[go_sem] theorem t24_fo : fldsOf Tryz.prog 24 = some [(0, 1), (1, 1), (2, 1)] := by kernel_rfl
@[go_sem] theorem t25_sz : szT Tryz.prog 25 = some 3 := by kernel_rfl
@[go_sem] theorem t25_by : bytesT Tryz.prog 25 = some 56 := by kernel_rfl
@[go_sem] theorem t25_ag : aggT Tryz.prog 25 = some true := by kernel_rfl
@[go_sem] theorem t25_ze : zeroT Tryz.prog 25 = some [.v (.int .i64 0), .v (.slice none 0 0), .v (.slice none 0 0)] := by kernel_rfl
@[go_sem] theorem t25_f0 : fldT Tryz.prog 25 0 = some (0, 1, 3) := by kernel_rfl
@[go_sem] theorem t25_f1 : fldT Tryz.prog 25 1 = some (1, 1, 22) := by kernel_rfl
@[go_sem] theorem t25_f2 : fldT Tryz.prog 25 2 = some (2, 1, 23) := by kernel_rfl
@[go_sem] theorem t25_fo : fldsOf Tryz.prog 25 = some [(0, 1), (1, 1), (2, 1)] := by kernel_rfl
@[go_sem] theorem t28_sz : szT Tryz.prog 28 = some 1 := by kernel_rfl
@[go_sem] theorem t28_by : bytesT Tryz.prog 28 = some 24 := by kernel_rfl
@[go_sem] theorem t28_ag : aggT Tryz.prog 28 = some false := by kernel_rfl
@[go_sem] theorem t28_ze : zeroT Tryz.prog 28 = some [.v (.slice none 0 0)] := by kernel_rfl
@[go_sem] theorem t28_el : elemT Tryz.prog 28 = some 54 := by kernel_rfl
@[go_sem] theorem t28_un : Tryz.prog.underlying 28 = some (.slice 54) := by kernel_rfl
@[go_sem] theorem t28_ni : notInt Tryz.prog 28 = true := by kernel_rfl
@[go_sem] theorem t29_sz : szT Tryz.prog 29 = some 1 := by kernel_rfl
@[go_sem] theorem t29_by : bytesT Tryz.prog 29 = some 24 := by kernel_rfl
@[go_sem] theorem t29_ag : aggT Tryz.prog 29 = some false := by kernel_rfl
@[go_sem] theorem t29_ze : zeroT Tryz.prog 29 = some [.v (.slice none 0 0)] := by kernel_rfl
@[go_sem] theorem t29_el : elemT Tryz.prog 29 = some 57 := by kernel_rfl
@[go_sem] theorem t29_un : Tryz.prog.underlying 29 = some (.slice 57) := by kernel_rfl
@[go_sem] theorem t29_ni : notInt Tryz.prog 29 = true := by kernel_rfl
@[go_sem] theorem t30_sz : szT Tryz.prog 30 = some 3 := by kernel_rfl
@[go_sem] theorem t30_by : bytesT Tryz.prog 30 = some 56 := by kernel_rfl
@[go_sem] theorem t30_ag : aggT Tryz.prog 30 = some true := by kernel_rfl
@[go_sem] theorem t30_ze : zeroT Tryz.prog 30 = some [.v (.int .i64 0), .v (.slice none 0 0), .v (.slice none 0 0)] := by kernel_rfl
@[go_sem] theorem t30_f0 : fldT Tryz.prog 30 0 = some (0, 1, 3) := by kernel_rfl
@[go_sem] theorem t30_f1 : fldT Tryz.prog 30 1 = some (1, 1, 28) := by kernel_rfl
@[go_sem] theorem t30_f2 : fldT Tryz.prog 30 2 = some (2, 1, 29) := by kernel_rfl
@[go_sem] theorem t30_fo : fldsOf Tryz.prog 30 = some [(0, 1), (1, 1), (2, 1)] := by kernel_rfl
@[go_sem] theorem t31_sz : szT Tryz.prog 31 = some 3 := by kernel_rfl
@[go_sem] theorem t31_by : bytesT Tryz.prog 31 = some 56 := by kernel_rfl
@[go_sem] theorem t31_ag : aggT Tryz.prog 31 = some true := by kernel_rfl
@[go_sem] theorem t31_ze : zeroT Tryz.prog 31 = some [.v (.int .i64 0), .v (.slice none 0 0), .v (.slice none 0 0)] := by kernel_rfl
@[go_sem] theorem t31_f0 : fldT Tryz.prog 31 0 = some (0, 1, 3) := by kernel_rfl
@[go_sem] theorem t31_f1 : fldT Tryz.prog 31 1 = some (1, 1, 28) := by kernel_rfl
@[go_sem] theorem t31_f2 : fldT Tryz.prog 31 2 = some (2, 1, 29) := by kernel_rfl
@[go_sem] theorem t31_fo : fldsOf Tryz.prog 31 = some [(0, 1), (1, 1), (2, 1)] := by kernel_rfl
@[go_sem] theorem t40_sz : szT Tryz.prog 40 = some 1 := by kernel_rfl
@[go_sem] theorem t40_by : bytesT Tryz.prog 40 = some 24 := by kernel_rfl
@[go_sem] theorem t40_ag : aggT Tryz.prog 40 = some false := by kernel_rfl
@[go_sem] theorem t40_ze : zeroT Tryz.prog 40 = some [.v (.slice none 0 0)] := by kernel_rfl
@[go_sem] theorem t40_el : elemT Tryz.prog 40 = some 130 := by kernel_rfl
@[go_sem] theorem t40_un : Tryz.prog.underlying 40 = some (.slice 130) := by kernel_rfl
@[go_sem] theorem t40_ni : notInt Tryz.prog 40 = true := by kernel_rfl
@[go_sem] theorem t41_sz : szT Tryz.prog 41 = some 2 := by kernel_rfl
@[go_sem] theorem t41_by : bytesT Tryz.prog 41 = some 32 := by kernel_rfl
@[go_sem] theorem t41_ag : aggT Tryz.prog 41 = some true := by kernel_rfl
@[go_sem] theorem t41_ze : zeroT Tryz.prog 41 = some [.v (.int .i64 0), .v (.slice none 0 0)] := by kernel_rfl
@[go_sem] theorem t41_f0 : fldT Tryz.prog 41 0 = some (0, 1, 3) := by kernel_rfl
@[go_sem] theorem t41_f1 : fldT Tryz.prog 41 1 = some (1, 1, 40) := by kernel_rfl
@[go_sem] theorem t41_fo : fldsOf Tryz.prog 41 = some [(0, 1), (1, 1)] := by kernel_rfl
@[go_sem] theorem t42_sz : szT Tryz.prog 42 = some 2 := by kernel_rfl
@[go_sem] theorem t42_by : bytesT Tryz.prog 42 = some 32 := by kernel_rfl
@[go_sem] theorem t42_ag : aggT Tryz.prog 42 = some true := by kernel_rfl
@[go_sem] theorem t42_ze : zeroT Tryz.prog 42 = some [.v (.int .i64 0), .v (.slice none 0 0)] := by kernel_rfl
@[go_sem] theorem t42_f0 : fldT Tryz.prog 42 0 = some (0, 1, 3) := by kernel_rfl
@[go_sem] theorem t42_f1 : fldT Tryz.prog 42 1 = some (1, 1, 40) := by kernel_rfl
@[go_sem] theorem t42_fo : fldsOf Tryz.prog 42 = some [(0, 1), (1, 1)] := by kernel_rfl
@[go_sem] theorem t43_sz : szT Tryz.prog 43 = some 1 := by kernel_rfl
@[go_sem] theorem t43_by : bytesT Tryz.prog 43 = some 24 := by kernel_rfl
@[go_sem] theorem t43_ag : aggT Tryz.prog 43 = some false := by kernel_rfl
@[go_sem] theorem t43_ze : zeroT Tryz.prog 43 = some [.v (.slice none 0 0)] := by kernel_rfl
@[go_sem] theorem t43_el : elemT Tryz.prog 43 = some 68 := by kernel_rfl
@[go_sem] theorem t43_un : Tryz.prog.underlying 43 = some (.slice 68) := by kernel_rfl
@[go_sem] theorem t43_ni : notInt Tryz.prog 43 = true := by kernel_rfl
@[go_sem] theorem t44_sz : szT Tryz.prog 44 = some 3 := by kernel_rfl
@[go_sem] theorem t44_by : bytesT Tryz.prog 44 = some 40 := by kernel_rfl
@[go_sem] theorem t44_ag : aggT Tryz.prog 44 = some true := by kernel_rfl
@[go_sem] theorem t44_ze : zeroT Tryz.prog 44 = some [.v (.int .i64 0), .v (.int .i64 0), .v (.slice none 0 0)] := by kernel_rfl
@[go_sem] theorem t44_f0 : fldT Tryz.prog 44 0 = some (0, 1, 3) := by kernel_rfl
@[go_sem] theorem t44_f1 : fldT Tryz.prog 44 1 = some (1, 1, 3) := by kernel_rfl
@[go_sem] theorem t44_f2 : fldT Tryz.prog 44 2 = some (2, 1, 43) := by kernel_rfl
@[go_sem] theorem t44_fo : fldsOf Tryz.prog 44 = some [(0, 1), (1, 1), (2, 1)] := by kernel_rfl
@[go_sem] theorem t45_sz : szT Tryz.prog 45 = some 3 := by kernel_rfl
@[go_sem] theorem t45_by : bytesT Tryz.prog 45 = some 40 := by kernel_rfl
@[go_sem] theorem t45_ag : aggT Tryz.prog 45 = some true := by kernel_rfl
@[go_sem] theorem t45_ze : zeroT Tryz.prog 45 = some [.v (.int .i64 0), .v (.int .i64 0), .v (.slice none 0 0)] := by kernel_rfl
@[go_sem] theorem t45_f0 : fldT Tryz.prog 45 0 = some (0, 1, 3) := by kernel_rfl
@[go_sem] theorem t45_f1 : fldT Tryz.prog 45 1 = some (1, 1, 3) := by kernel_rfl
@[go_sem] theorem t45_f2 : fldT Tryz.prog 45 2 = some (2, 1, 43) := by kernel_rfl
@[go_sem] theorem t45_fo : fldsOf Tryz.prog 45 = some [(0, 1), (1, 1), (2, 1)] := by kernel_rfl
@[go_sem] theorem t46_sz : szT Tryz.prog 46 = some 1 := by kernel_rfl
@[go_sem] theorem t46_by : bytesT Tryz.prog 46 = some 24 := by kernel_rfl
@[go_sem] theorem t46_ag : aggT Tryz.prog 46 = some false := by kernel_rfl
@[go_sem] theorem t46_ze : zeroT Tryz.prog 46 = some [.v (.slice none 0 0)] := by kernel_rfl
@[go_sem] theorem t46_el : elemT Tryz.prog 46 = some 3 := by kernel_rfl
@[go_sem] theorem t46_un : Tryz.prog.underlying 46 = some (.slice 3) := by kernel_rfl
@[go_sem] theorem t46_ni : notInt Tryz.prog 46 = true := by kernel_rfl
@[go_sem] theorem t47_sz : szT Tryz.prog 47 = some 10 := by kernel_rfl
@[go_sem] theorem t47_by : bytesT Tryz.prog 47 = some 144 := by kernel_rfl
@[go_sem] theorem t47_ag : aggT Tryz.prog 47 = some true := by kernel_rfl
@[go_sem] theorem t47_ze : zeroT Tryz.prog 47 = some [.v (.int .i64 0), .v (.int .i64 0), .v (.int .i64 0), .v (.int .i64 0), .v (.int .i64 0), .v (.int .i64 0), .v (.slice none 0 0), .v (.slice none 0 0), .v (.slice none 0 0), .v (.slice none 0 0)] := by kernel_rfl
@[go_sem] theorem t47_f0 : fldT Tryz.prog 47 0 = some (0, 1, 3) := by kernel_rfl
@[go_sem] theorem t47_f1 : fldT Tryz.prog 47 1 = some (1, 1, 3) := by kernel_rfl
@[go_sem] theorem t47_f2 : fldT Tryz.prog 47 2 = some (2, 1, 3) := by kernel_rfl
@[go_sem] theorem t47_f3 : fldT Tryz.prog 47 3 = some (3, 1, 3) := by kernel_rfl
@[go_sem] theorem t47_f4 : fldT Tryz.prog 47 4 = some (4, 3, 45) := by kernel_rfl
@[go_sem] theorem t47_f5 : fldT Tryz.prog 47 5 = some (7, 1, 46) := by kernel_rfl
@[go_sem] theorem t47_f6 : fldT Tryz.prog 47 6 = some (8, 1, 46) := by kernel_rfl
@[go_sem] theorem t47_f7 : fldT Tryz.prog 47 7 = some (9, 1, 46) := by kernel_rfl
@[go_sem] theorem t47_fo : fldsOf Tryz.prog 47 = some [(0, 1), (1, 1), (2, 1), (3, 1), (4, 3), (7, 1), (8, 1), (9, 1)] := by kernel_rfl
@[go_sem] theorem t48_sz : szT Tryz.prog 48 = some 10 := by kernel_rfl
@[go_sem] theorem t48_by : bytesT Tryz.prog 48 = some 144 := by kernel_rfl
@[go_sem] theorem t48_ag : aggT Tryz.prog 48 = some true := by kernel_rfl
@[go_sem] theorem t48_ze : zeroT Tryz.prog 48 = some [.v (.int .i64 0), .v (.int .i64 0), .v (.int .i64 0), .v (.int .i64 0), .v (.int .i64 0), .v (.int .i64 0), .v (.slice none 0 0), .v (.slice none 0 0), .v (.slice none 0 0), .v (.slice none 0 0)] := by kernel_rfl
@[go_sem] theorem t48_f0 : fldT Tryz.prog 48 0 = some (0, 1, 3) := by kernel_rfl
@[go_sem] theorem t48_f1 : fldT Tryz.prog 48 1 = some (1, 1, 3) := by kernel_rfl
@[go_sem] theorem t48_f2 : fldT Tryz.prog 48 2 = some (2, 1, 3) := by kernel_rfl
@[go_sem] theorem t48_f3 : fldT Tryz.prog 48 3 = some (3, 1, 3) := by kernel_rfl
@[go_sem] theorem t48_f4 : fldT Tryz.prog 48 4 = some (4, 3, 45) := by kernel_rfl
@[go_sem] theorem t48_f5 : fldT Tryz.prog 48 5 = some (7, 1, 46) := by kernel_rfl
@[go_sem] theorem t48_f6 : fldT Tryz.prog 48 6 = some (8, 1, 46) := by kernel_rfl
@[go_sem] theorem t48_f7 : fldT Tryz.prog 48 7 = some (9, 1, 46) := by kernel_rfl
@[go_sem] theorem t48_fo : fldsOf Tryz.prog 48 = some [(0, 1), (1, 1), (2, 1), (3, 1), (4, 3), (7, 1), (8, 1), (9, 1)] := by kernel_rfl
@[go_sem] theorem t49_sz : szT Tryz.prog 49 = some 1 := by kernel_rfl
@[go_sem] theorem t49_by : bytesT Tryz.prog 49 = some 24 := by kernel_rfl
@[go_sem] theorem t49_ag : aggT Tryz.prog 49 = some false := by kernel_rfl
@[go_sem] theorem t49_ze : zeroT Tryz.prog 49 = some [.v (.slice none 0 0)] := by kernel_rfl
@[go_sem] theorem t49_el : elemT Tryz.prog 49 = some 73 := by kernel_rfl
@[go_sem] theorem t49_un : Tryz.prog.underlying 49 = some (.slice 73) := by kernel_rfl
@[go_sem] theorem t49_ni : notInt Tryz.prog 49 = true := by kernel_rfl
@[go_sem] theorem t50_sz : szT Tryz.prog 50 = some 4 := by kernel_rfl
@[go_sem] theorem t50_by : bytesT Tryz.prog 50 = some 64 := by kernel_rfl
@[go_sem] theorem t50_ag : aggT Tryz.prog 50 = some true := by kernel_rfl
@[go_sem] theorem t50_ze : zeroT Tryz.prog 50 = some [.v (.int .i64 0), .v (.slice none 0 0), .v (.int .i64 0), .v (.slice none 0 0)] := by kernel_rfl
@[go_sem] theorem t50_f0 : fldT Tryz.prog 50 0 = some (0, 1, 3) := by kernel_rfl
@[go_sem] theorem t50_f1 : fldT Tryz.prog 50 1 = some (1, 1, 49) := by kernel_rfl
@[go_sem] theorem t50_f2 : fldT Tryz.prog 50 2 = some (2, 1, 3) := by kernel_rfl
@[go_sem] theorem t50_f3 : fldT Tryz.prog 50 3 = some (3, 1, 46) := by kernel_rfl
@[go_sem] theorem t50_fo : fldsOf Tryz.prog 50 = some [(0, 1), (1, 1), (2, 1), (3, 1)] := by kernel_rfl
@[go_sem] theorem t51_sz : szT Tryz.prog 51 = some 4 := by kernel_rfl
@[go_sem] theorem t51_by : bytesT Tryz.prog 51 = some 64 := by kernel_rfl
@[go_sem] theorem t51_ag : aggT Tryz.prog 51 = some true := by kernel_rfl
@[go_sem] theorem t51_ze : zeroT Tryz.prog 51 = some [.v (.int .i64 0), .v (.slice none 0 0), .v (.int .i64 0), .v (.slice none 0 0)] := by kernel_rfl
@[go_sem] theorem t51_f0 : fldT Tryz.prog 51 0 = some (0, 1, 3) := by kernel_rfl
@[go_sem] theorem t51_f1 : fldT Tryz.prog 51 1 = some (1, 1, 49) := by kernel_rfl
@[go_sem] theorem t51_f2 : fldT Tryz.prog 51 2 = some (2, 1, 3) := by kernel_rfl
@[go_sem] theorem t51_f3 : fldT Tryz.prog 51 3 = some (3, 1, 46) := by kernel_rfl
@[go_sem] theorem t51_fo : fldsOf Tryz.prog 51 = some [(0, 1), (1, 1), (2, 1), (3, 1)] := by kernel_rfl
@[go_sem] theorem t52_sz : szT Tryz.prog 52 = some 1 := by kernel_rfl
@[go_sem] theorem t52_by : bytesT Tryz.prog 52 = some 24 := by kernel_rfl
@[go_sem] theorem t52_ag : aggT Tryz.prog 52 = some false := by kernel_rfl
@[go_sem] theorem t52_ze : zeroT Tryz.prog 52 = some [.v (.slice none 0 0)] := by kernel_rfl
@[go_sem] theorem t52_el : elemT Tryz.prog 52 = some 81 := by kernel_rfl
@[go_sem] theorem t52_un : Tryz.prog.underlying 52 = some (.slice 81) := by kernel_rfl
@[go_sem] theorem t52_ni : notInt Tryz.prog 52 = true := by kernel_rfl
@[go_sem] theorem t53_sz : szT Tryz.prog 53 = some 19 := by kernel_rfl
@[go_sem] theorem t53_by : bytesT Tryz.prog 53 = some 280 := by kernel_rfl
@[go_sem] theorem t53_ag : aggT Tryz.prog 53 = some true := by kernel_rfl
@[go_sem] theorem t53_ze : zeroT Tryz.prog 53 = some [.v (.bool false), .v (.int .i64 0), .v (.slice none 0 0), .v (.int .i64 0), .v (.int .i64 0), .v (.int .i64 0), .v (.int .i64 0), .v (.int .i64 0), .v (.int .i64 0), .v (.slice none 0 0), .v (.slice none 0 0), .v (.slice none 0 0), .v (.slice none 0 0), .v (.int .i64 0), .v (.int .i64 0), .v (.slice none 0 0), .v (.int .i64 0), .v (.slice none 0 0), .v (.slice none 0 0)] := by kernel_rfl
@[go_sem] theorem t53_f0 : fldT Tryz.prog 53 0 = some (0, 1, 4) := by kernel_rfl
@[go_sem] theorem t53_f1 : fldT Tryz.prog 53 1 = some (1, 2, 42) := by kernel_rfl
@[go_sem] theorem t53_f2 : fldT Tryz.prog 53 2 = some (3, 10, 48) := by kernel_rfl
@[go_sem] theorem t53_f3 : fldT Tryz.prog 53 3 = some (13, 1, 3) := by kernel_rfl
@[go_sem] theorem t53_f4 : fldT Tryz.prog 53 4 = some (14, 4, 51) := by kernel_rfl
@[go_sem] theorem t53_f5 : fldT Tryz.prog 53 5 = some (18, 1, 52) := by kernel_rfl
@[go_sem] theorem t53_fo : fldsOf Tryz.prog 53 = some [(0, 1), (1, 2), (3, 10), (13, 1), (14, 4), (18, 1)] := by kernel_rfl
@[go_sem] theorem t54_sz : szT Tryz.prog 54 = some 19 := by kernel_rfl
@[go_sem] theorem t54_by : bytesT Tryz.prog 54 = some 280 := by kernel_rfl
@[go_sem] theorem t54_ag : aggT Tryz.prog 54 = some true := by kernel_rfl
@[go_sem] theorem t54_ze : zeroT Tryz.prog 54 = some [.v (.bool false), .v (.int .i64 0), .v (.slice none 0 0), .v (.int .i64 0), .v (.int .i64 0), .v (.int .i64 0), .v (.int .i64 0), .v (.int .i64 0), .v (.int .i64 0), .v (.slice none 0 0), .v (.slice none 0 0), .v (.slice none 0 0), .v (.slice none 0 0), .v (.int .i64 0), .v (.int .i64 0), .v (.slice none 0 0), .v (.int .i64 0), .v (.slice none 0 0), .v (.slice none 0 0)] := by kernel_rfl
@[go_sem] theorem t54_f0 : fldT Tryz.prog 54 0 = some (0, 1, 4) := by kernel_rfl
@[go_sem] theorem t54_f1 : fldT Tryz.prog 54 1 = some (1, 2, 42) := by kernel_rfl
@[go_sem] theorem t54_f2 : fldT Tryz.prog 54 2 = some (3, 10, 48) := by kernel_rfl
@[go_sem] theorem t54_f3 : fldT Tryz.prog 54 3 = some (13, 1, 3) := by kernel_rfl
@[go_sem] theorem t54_f4 : fldT Tryz.prog 54 4 = some (14, 4, 51) := by kernel_rfl
@[go_sem] theorem t54_f5 : fldT Tryz.prog 54 5 = some (18, 1, 52) := by kernel_rfl
@[go_sem] theorem t54_fo : fldsOf Tryz.prog 54 = some [(0, 1), (1, 2), (3, 10), (13, 1), (14, 4), (18, 1)] := by kernel_rfl
@[go_sem] theorem t56_sz : szT Tryz.prog 56 = some 2 := by kernel_rfl
@[go_sem] theorem t56_by : bytesT Tryz.prog 56 = some 24 := by kernel_rfl
@[go_sem] theorem t56_ag : aggT Tryz.prog 56 = some true := by kernel_rfl
@[go_sem] theorem t56_ze : zeroT Tryz.prog 56 = some [.v (.int .i64 0), .v (.string ⟨#[]⟩)] := by kernel_rfl
@[go_sem] theorem t56_f0 : fldT Tryz.prog 56 0 = some (0, 1, 3) := by kernel_rfl
@[go_sem] theorem t56_f1 : fldT Tryz.prog 56 1 = some (1, 1, 9) := by kernel_rfl
@[go_sem] theorem t56_fo : fldsOf Tryz.prog 56 = some [(0, 1), (1, 1)] := by kernel_rfl
@[go_sem] theorem t57_sz : szT Tryz.prog 57 = some 2 := by kernel_rfl
@[go_sem] theorem t57_by : bytesT Tryz.prog 57 = some 24 := by kernel_rfl
@[go_sem] theorem t57_ag : aggT Tryz.prog 57 = some true := by kernel_rfl
@[go_sem] theorem t57_ze : zeroT Tryz.prog 57 = some [.v (.int .i64 0), .v (.string ⟨#[]⟩)] := by kernel_rfl
@[go_sem] theorem t57_f0 : fldT Tryz.prog 57 0 = some (0, 1, 3) := by kernel_rfl
@[go_sem] theorem t57_f1 : fldT Tryz.prog 57 1 = some (1, 1, 9) := by kernel_rfl
@[go_sem] theorem t57_fo : fldsOf Tryz.prog 57 = some [(0, 1), (1, 1)] := by kernel_rfl
@[go_sem] theorem t57_eg : Tryz.prog.eqGuardType Tryz.prog.depth 57 = false := by kernel_rfl
@[go_sem] theorem t57_fl : eqFlds Tryz.prog 57 = some [(3, 0), (9, 1)] := by kernel_rfl
@[go_sem] theorem t57_eq (neg : Bool) (xs ys : List T) : eqAggT Tryz.prog neg 57 (.agg xs) (.agg ys) = (match toVs xs, toVs ys with | some us, some ws => (eqL Tryz.prog 19 [(3, 0), (9, 1)] us ws).map fun b => .v (.bool (if neg = true then !b else b)) | _, _ => none) := eqAgg_t t57_eg t57_ag t57_fl neg xs ys
@[go_sem] theorem t65_sz : szT Tryz.prog 65 = some 5 := by kernel_rfl
@[go_sem] theorem t65_by : bytesT Tryz.prog 65 = some 48 := by kernel_rfl
@[go_sem] theorem t65_ag : aggT Tryz.prog 65 = some true := by kernel_rfl
@[go_sem] theorem t65_ze : zeroT Tryz.prog 65 = some [.v (.int .i64 0), .v (.int .i64 0), .v (.int .i64 0), .v (.int .i64 0), .v (.string ⟨#[]⟩)] := by kernel_rfl
@[go_sem] theorem t65_f0 : fldT Tryz.prog 65 0 = some (0, 1, 3) := by kernel_rfl
@[go_sem] theorem t65_f1 : fldT Tryz.prog 65 1 = some (1, 1, 3) := by kernel_rfl
@[go_sem] theorem t65_f2 : fldT Tryz.prog 65 2 = some (2, 1, 3) := by kernel_rfl
@[go_sem] theorem t65_f3 : fldT Tryz.prog 65 3 = some (3, 1, 3) := by kernel_rfl
@[go_sem] theorem t65_f4 : fldT Tryz.prog 65 4 = some (4, 1, 9) := by kernel_rfl
@[go_sem] theorem t65_fo : fldsOf Tryz.prog 65 = some [(0, 1), (1, 1), (2, 1), (3, 1), (4, 1)] := by kernel_rfl
@[go_sem] theorem t66_sz : szT Tryz.prog 66 = some 5 := by kernel_rfl
@[go_sem] theorem t66_by : bytesT Tryz.prog 66 = some 48 := by kernel_rfl
@[go_sem] theorem t66_ag : aggT Tryz.prog 66 = some true := by kernel_rfl
@[go_sem] theorem t66_ze : zeroT Tryz.prog 66 = some [.v (.int .i64 0), .v (.int .i64 0), .v (.int .i64 0), .v (.int .i64 0), .v (.string ⟨#[]⟩)] := by kernel_rfl
@[go_sem] theorem t66_f0 : fldT Tryz.prog 66 0 = some (0, 1, 3) := by kernel_rfl
@[go_sem] theorem t66_f1 : fldT Tryz.prog 66 1 = some (1, 1, 3) := by kernel_rfl
@[go_sem] theorem t66_f2 : fldT Tryz.prog 66 2 = some (2, 1, 3) := by kernel_rfl
@[go_sem] theorem t66_f3 : fldT Tryz.prog 66 3 = some (3, 1, 3) := by kernel_rfl
@[go_sem] theorem t66_f4 : fldT Tryz.prog 66 4 = some (4, 1, 9) := by kernel_rfl
@[go_sem] theorem t66_fo : fldsOf Tryz.prog 66 = some [(0, 1), (1, 1), (2, 1), (3, 1), (4, 1)] := by kernel_rfl
@[go_sem] theorem t66_eg : Tryz.prog.eqGuardType Tryz.prog.depth 66 = false := by kernel_rfl
@[go_sem] theorem t66_fl : eqFlds Tryz.prog 66 = some [(3, 0), (3, 1), (3, 2), (3, 3), (9, 4)] := by kernel_rfl
@[go_sem] theorem t66_eq (neg : Bool) (xs ys : List T) : eqAggT Tryz.prog neg 66 (.agg xs) (.agg ys) = (match toVs xs, toVs ys with | some us, some ws => (eqL Tryz.prog 19 [(3, 0), (3, 1), (3, 2), (3, 3), (9, 4)] us ws).map fun b => .v (.bool (if neg = true then !b else b)) | _, _ => none) := eqAgg_t t66_eg t66_ag t66_fl neg xs ys
@[go_sem] theorem t67_sz : szT Tryz.prog 67 = some 6 := by kernel_rfl
@[go_sem] theorem t67_by : bytesT Tryz.prog 67 = some 56 := by kernel_rfl
@[go_sem] theorem t67_ag : aggT Tryz.prog 67 = some true := by kernel_rfl
@[go_sem] theorem t67_ze : zeroT Tryz.prog 67 = some [.v (.int .i64 0), .v (.int .i64 0), .v (.int .i64 0), .v (.int .i64 0), .v (.int .i64 0), .v (.string ⟨#[]⟩)] := by kernel_rfl
@[go_sem] theorem t67_f0 : fldT Tryz.prog 67 0 = some (0, 1, 3) := by kernel_rfl
@[go_sem] theorem t67_f1 : fldT Tryz.prog 67 1 = some (1, 5, 66) := by kernel_rfl
@[go_sem] theorem t67_fo : fldsOf Tryz.prog 67 = some [(0, 1), (1, 5)] := by kernel_rfl
@[go_sem] theorem t68_sz : szT Tryz.prog 68 = some 6 := by kernel_rfl
@[go_sem] theorem t68_by : bytesT Tryz.prog 68 = some 56 := by kernel_rfl
@[go_sem] theorem t68_ag : aggT Tryz.prog 68 = some true := by kernel_rfl
@[go_sem] theorem t68_ze : zeroT Tryz.prog 68 = some [.v (.int .i64 0), .v (.int .i64 0), .v (.int .i64 0), .v (.int .i64 0), .v (.int .i64 0), .v (.string ⟨#[]⟩)] := by kernel_rfl
@[go_sem] theorem t68_f0 : fldT Tryz.prog 68 0 = some (0, 1, 3) := by kernel_rfl
@[go_sem] theorem t68_f1 : fldT Tryz.prog 68 1 = some (1, 5, 66) := by kernel_rfl
@[go_sem] theorem t68_fo : fldsOf Tryz.prog 68 = some [(0, 1), (1, 5)] := by kernel_rfl
@[go_sem] theorem t72_sz : szT Tryz.prog 72 = some 5 := by kernel_rfl
@[go_sem] theorem t72_by : bytesT Tryz.prog 72 = some 64 := by kernel_rfl
@[go_sem] theorem t72_ag : aggT Tryz.prog 72 = some true := by kernel_rfl
@[go_sem] theorem t72_ze : zeroT Tryz.prog 72 = some [.v (.int .i64 0), .v (.int .i64 0), .v (.string ⟨#[]⟩), .v (.slice none 0 0), .v (.int .i64 0)] := by kernel_rfl
@[go_sem] theorem t72_f0 : fldT Tryz.prog 72 0 = some (0, 1, 3) := by kernel_rfl
@[go_sem] theorem t72_f1 : fldT Tryz.prog 72 1 = some (1, 1, 3) := by kernel_rfl
@[go_sem] theorem t72_f2 : fldT Tryz.prog 72 2 = some (2, 1, 9) := by kernel_rfl
@[go_sem] theorem t72_f3 : fldT Tryz.prog 72 3 = some (3, 1, 46) := by kernel_rfl
@[go_sem] theorem t72_f4 : fldT Tryz.prog 72 4 = some (4, 1, 3) := by kernel_rfl
@[go_sem] theorem t72_fo : fldsOf Tryz.prog 72 = some [(0, 1), (1, 1), (2, 1), (3, 1), (4, 1)] := by kernel_rfl
@[go_sem] theorem t73_sz : szT Tryz.prog 73 = some 5 := by kernel_rfl
@[go_sem] theorem t73_by : bytesT Tryz.prog 73 = some 64 := by kernel_rfl
@[go_sem] theorem t73_ag : aggT Tryz.prog 73 = some true := by kernel_rfl
@[go_sem] theorem t73_ze : zeroT Tryz.prog 73 = some [.v (.int .i64 0), .v (.int .i64 0), .v (.string ⟨#[]⟩), .v (.slice none 0 0), .v (.int .i64 0)] := by kernel_rfl
@[go_sem] theorem t73_f0 : fldT Tryz.prog 73 0 = some (0, 1, 3) := by kernel_rfl
@[go_sem] theorem t73_f1 : fldT Tryz.prog 73 1 = some (1, 1, 3) := by kernel_rfl
@[go_sem] theorem t73_f2 : fldT Tryz.prog 73 2 = some (2, 1, 9) := by kernel_rfl
@[go_sem] theorem t73_f3 : fldT Tryz.prog 73 3 = some (3, 1, 46) := by kernel_rfl
@[go_sem] theorem t73_f4 : fldT Tryz.prog 73 4 = some (4, 1, 3) := by kernel_rfl
@[go_sem] theorem t73_fo : fldsOf Tryz.prog 73 = some [(0, 1), (1, 1), (2, 1), (3, 1), (4, 1)] := by kernel_rfl
@[go_sem] theorem t77_sz : szT Tryz.prog 77 = some 1 := by kernel_rfl
@[go_sem] theorem t77_by : bytesT Tryz.prog 77 = some 24 := by kernel_rfl
@[go_sem] theorem t77_ag : aggT Tryz.prog 77 = some false := by kernel_rfl
@[go_sem] theorem t77_ze : zeroT Tryz.prog 77 = some [.v (.slice none 0 0)] := by kernel_rfl
@[go_sem] theorem t77_el : elemT Tryz.prog 77 = some 9 := by kernel_rfl
@[go_sem] theorem t77_un : Tryz.prog.underlying 77 = some (.slice 9) := by kernel_rfl
@[go_sem] theorem t77_ni : notInt Tryz.prog 77 = true := by kernel_rfl
@[go_sem] theorem t78_sz : szT Tryz.prog 78 = some 3 := by kernel_rfl
@[go_sem] theorem t78_by : bytesT Tryz.prog 78 = some 48 := by kernel_rfl
@[go_sem] theorem t78_ag : aggT Tryz.prog 78 = some true := by kernel_rfl
@[go_sem] theorem t78_ze : zeroT Tryz.prog 78 = some [.v (.int .i64 0), .v (.string ⟨#[]⟩), .v (.slice none 0 0)] := by kernel_rfl
@[go_sem] theorem t78_f0 : fldT Tryz.prog 78 0 = some (0, 1, 3) := by kernel_rfl
@[go_sem] theorem t78_f1 : fldT Tryz.prog 78 1 = some (1, 1, 9) := by kernel_rfl
@[go_sem] theorem t78_f2 : fldT Tryz.prog 78 2 = some (2, 1, 77) := by kernel_rfl
@[go_sem] theorem t78_fo : fldsOf Tryz.prog 78 = some [(0, 1), (1, 1), (2, 1)] := by kernel_rfl
@[go_sem] theorem t79_sz : szT Tryz.prog 79 = some 3 := by kernel_rfl
@[go_sem] theorem t79_by : bytesT Tryz.prog 79 = some 48 := by kernel_rfl
@[go_sem] theorem t79_ag : aggT Tryz.prog 79 = some true := by kernel_rfl
@[go_sem] theorem t79_ze : zeroT Tryz.prog 79 = some [.v (.int .i64 0), .v (.string ⟨#[]⟩), .v (.slice none 0 0)] := by kernel_rfl
@[go_sem] theorem t79_f0 : fldT Tryz.prog 79 0 = some (0, 1, 3) := by kernel_rfl
@[go_sem] theorem t79_f1 : fldT Tryz.prog 79 1 = some (1, 1, 9) := by kernel_rfl
@[go_sem] theorem t79_f2 : fldT Tryz.prog 79 2 = some (2, 1, 77) := by kernel_rfl
@[go_sem] theorem t79_fo : fldsOf Tryz.prog 79 = some [(0, 1), (1, 1), (2, 1)] := by kernel_rfl
@[go_sem] theorem t80_sz : szT Tryz.prog 80 = some 4 := by kernel_rfl
@[go_sem] theorem t80_by : bytesT Tryz.prog 80 = some 56 := by kernel_rfl
@[go_sem] theorem t80_ag : aggT Tryz.prog 80 = some true := by kernel_rfl
@[go_sem] theorem t80_ze : zeroT Tryz.prog 80 = some [.v (.int .i64 0), .v (.int .i64 0), .v (.string ⟨#[]⟩), .v (.slice none 0 0)] := by kernel_rfl
@[go_sem] theorem t80_f0 : fldT Tryz.prog 80 0 = some (0, 1, 3) := by kernel_rfl
@[go_sem] theorem t80_f1 : fldT Tryz.prog 80 1 = some (1, 3, 79) := by kernel_rfl
@[go_sem] theorem t80_fo : fldsOf Tryz.prog 80 = some [(0, 1), (1, 3)] := by kernel_rfl
@[go_sem] theorem t81_sz : szT Tryz.prog 81 = some 4 := by kernel_rfl
@[go_sem] theorem t81_by : bytesT Tryz.prog 81 = some 56 := by kernel_rfl
@[go_sem] theorem t81_ag : aggT Tryz.prog 81 = some true := by kernel_rfl
@[go_sem] theorem t81_ze : zeroT Tryz.prog 81 = some [.v (.int .i64 0), .v (.int .i64 0), .v (.string ⟨#[]⟩), .v (.slice none 0 0)] := by kernel_rfl
@[go_sem] theorem t81_f0 : fldT Tryz.prog 81 0 = some (0, 1, 3) := by kernel_rfl
@[go_sem] theorem t81_f1 : fldT Tryz.prog 81 1 = some (1, 3, 79) := by kernel_rfl
@[go_sem] theorem t81_fo : fldsOf Tryz.prog 81 = some [(0, 1), (1, 3)] := by kernel_rfl
@[go_sem] theorem t83_sz : szT Tryz.prog 83 = some 1 := by kernel_rfl
@[go_sem] theorem t83_by : bytesT Tryz.prog 83 = some 24 := by kernel_rfl
@[go_sem] theorem t83_ag : aggT Tryz.prog 83 = some false := by kernel_rfl
@[go_sem] theorem t83_ze : zeroT Tryz.prog 83 = some [.v (.slice none 0 0)] := by kernel_rfl
@[go_sem] theorem t83_el : elemT Tryz.prog 83 = some 66 := by kernel_rfl
@[go_sem] theorem t83_un : Tryz.prog.underlying 83 = some (.slice 66) := by kernel_rfl
@[go_sem] theorem t83_ni : notInt Tryz.prog 83 = true := by kernel_rfl
@[go_sem] theorem t89_sz : szT Tryz.prog 89 = some 1 := by kernel_rfl
@[go_sem] theorem t89_by : bytesT Tryz.prog 89 = some 24 := by kernel_rfl
@[go_sem] theorem t89_ag : aggT Tryz.prog 89 = some false := by kernel_rfl
@[go_sem] theorem t89_ze : zeroT Tryz.prog 89 = some [.v (.slice none 0 0)] := by kernel_rfl
@[go_sem] theorem t89_el : elemT Tryz.prog 89 = some 179 := by kernel_rfl
@[go_sem] theorem t89_un : Tryz.prog.underlying 89 = some (.slice 179) := by kernel_rfl
@[go_sem] theorem t89_ni : notInt Tryz.prog 89 = true := by kernel_rfl
@[go_sem] theorem t90_sz : szT Tryz.prog 90 = some 2 := by kernel_rfl
@[go_sem] theorem t90_by : bytesT Tryz.prog 90 = some 32 := by kernel_rfl
@[go_sem] theorem t90_ag : aggT Tryz.prog 90 = some true := by kernel_rfl
@[go_sem] theorem t90_ze : zeroT Tryz.prog 90 = some [.v (.int .i64 0), .v (.slice none 0 0)] := by kernel_rfl
@[go_sem] theorem t90_f0 : fldT Tryz.prog 90 0 = some (0, 1, 3) := by kernel_rfl
@[go_sem] theorem t90_f1 : fldT Tryz.prog 90 1 = some (1, 1, 89) := by kernel_rfl
@[go_sem] theorem t90_fo : fldsOf Tryz.prog 90 = some [(0, 1), (1, 1)] := by kernel_rfl
@[go_sem] theorem t91_sz : szT Tryz.prog 91 = some 2 := by kernel_rfl
@[go_sem] theorem t91_by : bytesT Tryz.prog 91 = some 32 := by kernel_rfl
@[go_sem] theorem t91_ag : aggT Tryz.prog 91 = some true := by kernel_rfl
@[go_sem] theorem t91_ze : zeroT Tryz.prog 91 = some [.v (.int .i64 0), .v (.slice none 0 0)] := by kernel_rfl
@[go_sem] theorem t91_f0 : fldT Tryz.prog 91 0 = some (0, 1, 3) := by kernel_rfl
@[go_sem] theorem t91_f1 : fldT Tryz.prog 91 1 = some (1, 1, 89) := by kernel_rfl
@[go_sem] theorem t91_fo : fldsOf Tryz.prog 91 = some [(0, 1), (1, 1)] := by kernel_rfl
@[go_sem] theorem t92_sz : szT Tryz.prog 92 = some 1 := by kernel_rfl
@[go_sem] theorem t92_by : bytesT Tryz.prog 92 = some 24 := by kernel_rfl
@[go_sem] theorem t92_ag : aggT Tryz.prog 92 = some false := by kernel_rfl
@[go_sem] theorem t92_ze : zeroT Tryz.prog 92 = some [.v (.slice none 0 0)] := by kernel_rfl
@[go_sem] theorem t92_el : elemT Tryz.prog 92 = some 208 := by kernel_rfl
@[go_sem] theorem t92_un : Tryz.prog.underlying 92 = some (.slice 208) := by kernel_rfl
@[go_sem] theorem t92_ni : notInt Tryz.prog 92 = true := by kernel_rfl
@[go_sem] theorem t93_sz : szT Tryz.prog 93 = some 3 := by kernel_rfl
@[go_sem] theorem t93_by : bytesT Tryz.prog 93 = some 40 := by kernel_rfl
@[go_sem] theorem t93_ag : aggT Tryz.prog 93 = some true := by kernel_rfl
@[go_sem] theorem t93_ze : zeroT Tryz.prog 93 = some [.v (.int .i64 0), .v (.int .i64 0), .v (.slice none 0 0)] := by kernel_rfl
@[go_sem] theorem t93_f0 : fldT Tryz.prog 93 0 = some (0, 1, 3) := by kernel_rfl
@[go_sem] theorem t93_f1 : fldT Tryz.prog 93 1 = some (1, 1, 3) := by kernel_rfl
@[go_sem] theorem t93_f2 : fldT Tryz.prog 93 2 = some (2, 1, 92) := by kernel_rfl
@[go_sem] theorem t93_fo : fldsOf Tryz.prog 93 = some [(0, 1), (1, 1), (2, 1)] := by kernel_rfl
@[go_sem] theorem t94_sz : szT Tryz.prog 94 = some 3 := by kernel_rfl
@[go_sem] theorem t94_by : bytesT Tryz.prog 94 = some 40 := by kernel_rfl
@[go_sem] theorem t94_ag : aggT Tryz.prog 94 = some true := by kernel_rfl
@[go_sem] theorem t94_ze : zeroT Tryz.prog 94 = some [.v (.int .i64 0), .v (.int .i64 0), .v (.slice none 0 0)] := by kernel_rfl
@[go_sem] theorem t94_f0 : fldT Tryz.prog 94 0 = some (0, 1, 3) := by kernel_rfl
@[go_sem] theorem t94_f1 : fldT Tryz.prog 94 1 = some (1, 1, 3) := by kernel_rfl
@[go_sem] theorem t94_f2 : fldT Tryz.prog 94 2 = some (2, 1, 92) := by kernel_rfl
@[go_sem] theorem t94_fo : fldsOf Tryz.prog 94 = some [(0, 1), (1, 1), (2, 1)] := by kernel_rfl
@[go_sem] theorem t95_sz : szT Tryz.prog 95 = some 10 := by kernel_rfl
@[go_sem] theorem t95_by : bytesT Tryz.prog 95 = some 144 := by kernel_rfl
@[go_sem] theorem t95_ag : aggT Tryz.prog 95 = some true := by kernel_rfl
@[go_sem] theorem t95_ze : zeroT Tryz.prog 95 = some [.v (.int .i64 0), .v (.int .i64 0), .v (.int .i64 0), .v (.int .i64 0), .v (.int .i64 0), .v (.int .i64 0), .v (.slice none 0 0), .v (.slice none 0 0), .v (.slice none 0 0), .v (.slice none 0 0)] := by kernel_rfl
@[go_sem] theorem t95_f0 : fldT Tryz.prog 95 0 = some (0, 1, 3) := by kernel_rfl
@[go_sem] theorem t95_f1 : fldT Tryz.prog 95 1 = some (1, 1, 3) := by kernel_rfl
@[go_sem] theorem t95_f2 : fldT Tryz.prog 95 2 = some (2, 1, 3) := by kernel_rfl
@[go_sem] theorem t95_f3 : fldT Tryz.prog 95 3 = some (3, 1, 3) := by kernel_rfl
@[go_sem] theorem t95_f4 : fldT Tryz.prog 95 4 = some (4, 3, 94) := by kernel_rfl
@[go_sem] theorem t95_f5 : fldT Tryz.prog 95 5 = some (7, 1, 46) := by kernel_rfl
@[go_sem] theorem t95_f6 : fldT Tryz.prog 95 6 = some (8, 1, 46) := by kernel_rfl
@[go_sem] theorem t95_f7 : fldT Tryz.prog 95 7 = some (9, 1, 46) := by kernel_rfl
@[go_sem] theorem t95_fo : fldsOf Tryz.prog 95 = some [(0, 1), (1, 1), (2, 1), (3, 1), (4, 3), (7, 1), (8, 1), (9, 1)] := by kernel_rfl
@[go_sem] theorem t96_sz : szT Tryz.prog 96 = some 10 := by kernel_rfl
@[go_sem] theorem t96_by : bytesT Tryz.prog 96 = some 144 := by kernel_rfl
@[go_sem] theorem t96_ag : aggT Tryz.prog 96 = some true := by kernel_rfl
@[go_sem] theorem t96_ze : zeroT Tryz.prog 96 = some [.v (.int .i64 0), .v (.int .i64 0), .v (.int .i64 0), .v (.int .i64 0), .v (.int .i64 0), .v (.int .i64 0), .v (.slice none 0 0), .v (.slice none 0 0), .v (.slice none 0 0), .v (.slice none 0 0)] := by kernel_rfl
@[go_sem] theorem t96_f0 : fldT Tryz.prog 96 0 = some (0, 1, 3) := by kernel_rfl
@[go_sem] theorem t96_f1 : fldT Tryz.prog 96 1 = some (1, 1, 3) := by kernel_rfl
@[go_sem] theorem t96_f2 : fldT Tryz.prog 96 2 = some (2, 1, 3) := by kernel_rfl
@[go_sem] theorem t96_f3 : fldT Tryz.prog 96 3 = some (3, 1, 3) := by kernel_rfl
@[go_sem] theorem t96_f4 : fldT Tryz.prog 96 4 = some (4, 3, 94) := by kernel_rfl
@[go_sem] theorem t96_f5 : fldT Tryz.prog 96 5 = some (7, 1, 46) := by kernel_rfl
@[go_sem] theorem t96_f6 : fldT Tryz.prog 96 6 = some (8, 1, 46) := by kernel_rfl
@[go_sem] theorem t96_f7 : fldT Tryz.prog 96 7 = some (9, 1, 46) := by kernel_rfl
@[go_sem] theorem t96_fo : fldsOf Tryz.prog 96 = some [(0, 1), (1, 1), (2, 1), (3, 1), (4, 3), (7, 1), (8, 1), (9, 1)] := by kernel_rfl
@[go_sem] theorem t97_sz : szT Tryz.prog 97 = some 1 := by kernel_rfl
@[go_sem] theorem t97_by : bytesT Tryz.prog 97 = some 24 := by kernel_rfl
@[go_sem] theorem t97_ag : aggT Tryz.prog 97 = some false := by kernel_rfl
@[go_sem] theorem t97_ze : zeroT Tryz.prog 97 = some [.v (.slice none 0 0)] := by kernel_rfl
@[go_sem] theorem t97_el : elemT Tryz.prog 97 = some 182 := by kernel_rfl
@[go_sem] theorem t97_un : Tryz.prog.underlying 97 = some (.slice 182) := by kernel_rfl
@[go_sem] theorem t97_ni : notInt Tryz.prog 97 = true := by kernel_rfl
@[go_sem] theorem t98_sz : szT Tryz.prog 98 = some 4 := by kernel_rfl
@[go_sem] theorem t98_by : bytesT Tryz.prog 98 = some 64 := by kernel_rfl
@[go_sem] theorem t98_ag : aggT Tryz.prog 98 = some true := by kernel_rfl
@[go_sem] theorem t98_ze : zeroT Tryz.prog 98 = some [.v (.int .i64 0), .v (.slice none 0 0), .v (.int .i64 0), .v (.slice none 0 0)] := by kernel_rfl
@[go_sem] theorem t98_f0 : fldT Tryz.prog 98 0 = some (0, 1, 3) := by kernel_rfl
@[go_sem] theorem t98_f1 : fldT Tryz.prog 98 1 = some (1, 1, 97) := by kernel_rfl
@[go_sem] theorem t98_f2 : fldT Tryz.prog 98 2 = some (2, 1, 3) := by kernel_rfl
@[go_sem] theorem t98_f3 : fldT Tryz.prog 98 3 = some (3, 1, 46) := by kernel_rfl
@[go_sem] theorem t98_fo : fldsOf Tryz.prog 98 = some [(0, 1), (1, 1), (2, 1), (3, 1)] := by kernel_rfl
@[go_sem] theorem t99_sz : szT Tryz.prog 99 = some 4 := by kernel_rfl
@[go_sem] theorem t99_by : bytesT Tryz.prog 99 = some 64 := by kernel_rfl
@[go_sem] theorem t99_ag : aggT Tryz.prog 99 = some true := by kernel_rfl
@[go_sem] theorem t99_ze : zeroT Tryz.prog 99 = some [.v (.int .i64 0), .v (.slice none 0 0), .v (.int .i64 0), .v (.slice none 0 0)] := by kernel_rfl
@[go_sem] theorem t99_f0 : fldT Tryz.prog 99 0 = some (0, 1, 3) := by kernel_rfl
@[go_sem] theorem t99_f1 : fldT Tryz.prog 99 1 = some (1, 1, 97) := by kernel_rfl
@[go_sem] theorem t99_f2 : fldT Tryz.prog 99 2 = some (2, 1, 3) := by kernel_rfl
@[go_sem] theorem t99_f3 : fldT Tryz.prog 99 3 = some (3, 1, 46) := by kernel_rfl
@[go_sem] theorem t99_fo : fldsOf Tryz.prog 99 = some [(0, 1), (1, 1), (2, 1), (3, 1)] := by kernel_rfl
@[go_sem] theorem t100_sz : szT Tryz.prog 100 = some 1 := by kernel_rfl
@[go_sem] theorem t100_by : bytesT Tryz.prog 100 = some 24 := by kernel_rfl
@[go_sem] theorem t100_ag : aggT Tryz.prog 100 = some false := by kernel_rfl
@[go_sem] theorem t100_ze : zeroT Tryz.prog 100 = some [.v (.slice none 0 0)] := by kernel_rfl
@[go_sem] theorem t100_el : elemT Tryz.prog 100 = some 157 := by kernel_rfl
@[go_sem] theorem t100_un : Tryz.prog.underlying 100 = some (.slice 157) := by kernel_rfl
@[go_sem] theorem t100_ni : notInt Tryz.prog 100 = true := by kernel_rfl
@[go_sem] theorem t101_sz : szT Tryz.prog 101 = some 19 := by kernel_rfl
@[go_sem] theorem t101_by : bytesT Tryz.prog 101 = some 280 := by kernel_rfl
@[go_sem] theorem t101_ag : aggT Tryz.prog 101 = some true := by kernel_rfl
@[go_sem] theorem t101_ze : zeroT Tryz.prog 101 = some [.v (.bool false), .v (.int .i64 0), .v (.slice none 0 0), .v (.int .i64 0), .v (.int .i64 0), .v (.int .i64 0), .v (.int .i64 0), .v (.int .i64 0), .v (.int .i64 0), .v (.slice none 0 0), .v (.slice none 0 0), .v (.slice none 0 0), .v (.slice none 0 0), .v (.int .i64 0), .v (.int .i64 0), .v (.slice none 0 0), .v (.int .i64 0), .v (.slice none 0 0), .v (.slice none 0 0)] := by kernel_rfl
@[go_sem] theorem t101_f0 : fldT Tryz.prog 101 0 = some (0, 1, 4) := by kernel_rfl
@[go_sem] theorem t101_f1 : fldT Tryz.prog 101 1 = some (1, 2, 91) := by kernel_rfl
@[go_sem] theorem t101_f2 : fldT Tryz.prog 101 2 = some (3, 10, 96) := by kernel_rfl
@[go_sem] theorem t101_f3 : fldT Tryz.prog 101 3 = some (13, 1, 3) := by kernel_rfl
@[go_sem] theorem t101_f4 : fldT Tryz.prog 101 4 = some (14, 4, 99) := by kernel_rfl
@[go_sem] theorem t101_f5 : fldT Tryz.prog 101 5 = some (18, 1, 100) := by kernel_rfl
@[go_sem] theorem t101_fo : fldsOf Tryz.prog 101 = some [(0, 1), (1, 2), (3, 10), (13, 1), (14, 4), (18, 1)] := by kernel_rfl
@[go_sem] theorem t102_sz : szT Tryz.prog 102 = some 19 := by kernel_rfl
@[go_sem] theorem t102_by : bytesT Tryz.prog 102 = some 280 := by kernel_rfl
@[go_sem] theorem t102_ag : aggT Tryz.prog 102 = some true := by kernel_rfl
@[go_sem] theorem t102_ze : zeroT Tryz.prog 102 = some [.v (.bool false), .v (.int .i64 0), .v (.slice none 0 0), .v (.int .i64 0), .v (.int .i64 0), .v (.int .i64 0), .v (.int .i64 0), .v (.int .i64 0), .v (.int .i64 0), .v (.slice none 0 0), .v (.slice none 0 0), .v (.slice none 0 0), .v (.slice none 0 0), .v (.int .i64 0), .v (.int .i64 0), .v (.slice none 0 0), .v (.int .i64 0), .v (.slice none 0 0), .v (.slice none 0 0)] := by kernel_rfl
@[go_sem] theorem t102_f0 : fldT Tryz.prog 102 0 = some (0, 1, 4) := by kernel_rfl
@[go_sem] theorem t102_f1 : fldT Tryz.prog 102 1 = some (1, 2, 91) := by kernel_rfl
@[go_sem] theorem t102_f2 : fldT Tryz.prog 102 2 = some (3, 10, 96) := by kernel_rfl
@[go_sem] theorem t102_f3 : fldT Tryz.prog 102 3 = some (13, 1, 3) := by kernel_rfl
@[go_sem] theorem t102_f4 : fldT Tryz.prog 102 4 = some (14, 4, 99) := by kernel_rfl
@[go_sem] theorem t102_f5 : fldT Tryz.prog 102 5 = some (18, 1, 100) := by kernel_rfl
@[go_sem] theorem t102_fo : fldsOf Tryz.prog 102 = some [(0, 1), (1, 2), (3, 10), (13, 1), (14, 4), (18, 1)] := by kernel_rfl
@[go_sem] theorem t104_sz : szT Tryz.prog 104 = some 2 := by kernel_rfl
@[go_sem] theorem t104_by : bytesT Tryz.prog 104 = some 24 := by kernel_rfl
@[go_sem] theorem t104_ag : aggT Tryz.prog 104 = some true := by kernel_rfl
@[go_sem] theorem t104_ze : zeroT Tryz.prog 104 = some [.v (.int .i64 0), .v (.string ⟨#[]⟩)] := by kernel_rfl
@[go_sem] theorem t104_f0 : fldT Tryz.prog 104 0 = some (0, 1, 3) := by kernel_rfl
@[go_sem] theorem t104_f1 : fldT Tryz.prog 104 1 = some (1, 1, 9) := by kernel_rfl
@[go_sem] theorem t104_fo : fldsOf Tryz.prog 104 = some [(0, 1), (1, 1)] := by kernel_rfl
@[go_sem] theorem t104_eg : Tryz.prog.eqGuardType Tryz.prog.depth 104 = false := by kernel_rfl
@[go_sem] theorem t104_fl : eqFlds Tryz.prog 104 = some [(3, 0), (9, 1)] := by kernel_rfl
@[go_sem] theorem t104_eq (neg : Bool) (xs ys : List T) : eqAggT Tryz.prog neg 104 (.agg xs) (.agg ys) = (match toVs xs, toVs ys with | some us, some ws => (eqL Tryz.prog 19 [(3, 0), (9, 1)] us ws).map fun b => .v (.bool (if neg = true then !b else b)) | _, _ => none) := eqAgg_t t104_eg t104_ag t104_fl neg xs ys
@[go_sem] theorem t129_sz : szT Tryz.prog 129 = some 3 := by kernel_rfl
@[go_sem] theorem t129_by : bytesT Tryz.prog 129 = some 40 := by kernel_rfl
@[go_sem] theorem t129_ag : aggT Tryz.prog 129 = some true := by kernel_rfl
@[go_sem] theorem t129_ze : zeroT Tryz.prog 129 = some [.v (.int .i64 0), .v (.string ⟨#[]⟩), .v (.string ⟨#[]⟩)] := by kernel_rfl
@[go_sem] theorem t129_f0 : fldT Tryz.prog 129 0 = some (0, 1, 3) := by kernel_rfl
@[go_sem] theorem t129_f1 : fldT Tryz.prog 129 1 = some (1, 1, 9) := by kernel_rfl
@[go_sem] theorem t129_f2 : fldT Tryz.prog 129 2 = some (2, 1, 9) := by kernel_rfl
@[go_sem] theorem t129_fo : fldsOf Tryz.prog 129 = some [(0, 1), (1, 1), (2, 1)] := by kernel_rfl
@[go_sem] theorem t130_sz : szT Tryz.prog 130 = some 3 := by kernel_rfl
@[go_sem] theorem t130_by : bytesT Tryz.prog 130 = some 40 := by kernel_rfl
@[go_sem] theorem t130_ag : aggT Tryz.prog 130 = some true := by kernel_rfl
@[go_sem] theorem t130_ze : zeroT Tryz.prog 130 = some [.v (.int .i64 0), .v (.string ⟨#[]⟩), .v (.string ⟨#[]⟩)] := by kernel_rfl
@[go_sem] theorem t130_f0 : fldT Tryz.prog 130 0 = some (0, 1, 3) := by kernel_rfl
@[go_sem] theorem t130_f1 : fldT Tryz.prog 130 1 = some (1, 1, 9) := by kernel_rfl
@[go_sem] theorem t130_f2 : fldT Tryz.prog 130 2 = some (2, 1, 9) := by kernel_rfl
@[go_sem] theorem t130_fo : fldsOf Tryz.prog 130 = some [(0, 1), (1, 1), (2, 1)] := by kernel_rfl
@[go_sem] theorem t130_eg : Tryz.prog.eqGuardType Tryz.prog.depth 130 = false := by kernel_rfl
@[go_sem] theorem t130_fl : eqFlds Tryz.prog 130 = some [(3, 0), (9, 1), (9, 2)] := by kernel_rfl
@[go_sem] theorem t130_eq (neg : Bool) (xs ys : List T) : eqAggT Tryz.prog neg 130 (.agg xs) (.agg ys) = (match toVs xs, toVs ys with | some us, some ws => (eqL Tryz.prog 19 [(3, 0), (9, 1), (9, 2)] us ws).map fun b => .v (.bool (if neg = true then !b else b)) | _, _ => none) := eqAgg_t t130_eg t130_ag t130_fl neg xs ys
@[go_sem] theorem t142_sz : szT Tryz.prog 142 = some 1 := by kernel_rfl
@[go_sem] theorem t142_by : bytesT Tryz.prog 142 = some 24 := by kernel_rfl
@[go_sem] theorem t142_ag : aggT Tryz.prog 142 = some false := by kernel_rfl
@[go_sem] theorem t142_ze : zeroT Tryz.prog 142 = some [.v (.slice none 0 0)] := by kernel_rfl
@[go_sem] theorem t142_el : elemT Tryz.prog 142 = some 5 := by kernel_rfl
@[go_sem] theorem t142_un : Tryz.prog.underlying 142 = some (.slice 5) := by kernel_rfl
@[go_sem] theorem t142_ni : notInt Tryz.prog 142 = true := by kernel_rfl
@[go_sem] theorem t142_bs : byteSlice Tryz.prog 142 = true := by kernel_rfl
@[go_sem] theorem t155_sz : szT Tryz.prog 155 = some 3 := by kernel_rfl
@[go_sem] theorem t155_by : bytesT Tryz.prog 155 = some 48 := by kernel_rfl
@[go_sem] theorem t155_ag : aggT Tryz.prog 155 = some true := by kernel_rfl
@[go_sem] theorem t155_ze : zeroT Tryz.prog 155 = some [.v (.int .i64 0), .v (.string ⟨#[]⟩), .v (.slice none 0 0)] := by kernel_rfl
@[go_sem] theorem t155_f0 : fldT Tryz.prog 155 0 = some (0, 1, 3) := by kernel_rfl
@[go_sem] theorem t155_f1 : fldT Tryz.prog 155 1 = some (1, 1, 9) := by kernel_rfl
@[go_sem] theorem t155_f2 : fldT Tryz.prog 155 2 = some (2, 1, 77) := by kernel_rfl
@[go_sem] theorem t155_fo : fldsOf Tryz.prog 155 = some [(0, 1), (1, 1), (2, 1)] := by kernel_rfl
@[go_sem] theorem t156_sz : szT Tryz.prog 156 = some 4 := by kernel_rfl
@[go_sem] theorem t156_by : bytesT Tryz.prog 156 = some 56 := by kernel_rfl
@[go_sem] theorem t156_ag : aggT Tryz.prog 156 = some true := by kernel_rfl
@[go_sem] theorem t156_ze : zeroT Tryz.prog 156 = some [.v (.int .i64 0), .v (.int .i64 0), .v (.string ⟨#[]⟩), .v (.slice none 0 0)] := by kernel_rfl
@[go_sem] theorem t156_f0 : fldT Tryz.prog 156 0 = some (0, 1, 3) := by kernel_rfl
@[go_sem] theorem t156_f1 : fldT Tryz.prog 156 1 = some (1, 3, 155) := by kernel_rfl
@[go_sem] theorem t156_fo : fldsOf Tryz.prog 156 = some [(0, 1), (1, 3)] := by kernel_rfl
@[go_sem] theorem t157_sz : szT Tryz.prog 157 = some 4 := by kernel_rfl
@[go_sem] theorem t157_by : bytesT Tryz.prog 157 = some 56 := by kernel_rfl
@[go_sem] theorem t157_ag : aggT Tryz.prog 157 = some true := by kernel_rfl
@[go_sem] theorem t157_ze : zeroT Tryz.prog 157 = some [.v (.int .i64 0), .v (.int .i64 0), .v (.string ⟨#[]⟩), .v (.slice none 0 0)] := by kernel_rfl
@[go_sem] theorem t157_f0 : fldT Tryz.prog 157 0 = some (0, 1, 3) := by kernel_rfl
@[go_sem] theorem t157_f1 : fldT Tryz.prog 157 1 = some (1, 3, 155) := by kernel_rfl
@[go_sem] theorem t157_fo : fldsOf Tryz.prog 157 = some [(0, 1), (1, 3)] := by kernel_rfl
@[go_sem] theorem t170_sz : szT Tryz.prog 170 = some 1 := by kernel_rfl
@[go_sem] theorem t170_by : bytesT Tryz.prog 170 = some 8 := by kernel_rfl
@[go_sem] theorem t170_ag : aggT Tryz.prog 170 = some false := by kernel_rfl
@[go_sem] theorem t170_ze : zeroT Tryz.prog 170 = some [.v (.int .u64 0)] := by kernel_rfl
@[go_sem] theorem t170_un : Tryz.prog.underlying 170 = some (.int .u64) := by kernel_rfl
@[go_sem] theorem t170_ec (m : Nat) (k : IntKind) (a b : Int) : eqC Tryz.prog (m + 1) 170 [.int k a] [.int k b] = some (decide (a = b)) := eqC_int t170_un k a b
@[go_sem] theorem t179_sz : szT Tryz.prog 179 = some 3 := by kernel_rfl
@[go_sem] theorem t179_by : bytesT Tryz.prog 179 = some 40 := by kernel_rfl
@[go_sem] theorem t179_ag : aggT Tryz.prog 179 = some true := by kernel_rfl
@[go_sem] theorem t179_ze : zeroT Tryz.prog 179 = some [.v (.int .i64 0), .v (.string ⟨#[]⟩), .v (.string ⟨#[]⟩)] := by kernel_rfl
@[go_sem] theorem t179_f0 : fldT Tryz.prog 179 0 = some (0, 1, 3) := by kernel_rfl
@[go_sem] theorem t179_f1 : fldT Tryz.prog 179 1 = some (1, 1, 9) := by kernel_rfl
@[go_sem] theorem t179_f2 : fldT Tryz.prog 179 2 = some (2, 1, 9) := by kernel_rfl
@[go_sem] theorem t179_fo : fldsOf Tryz.prog 179 = some [(0, 1), (1, 1), (2, 1)] := by kernel_rfl
@[go_sem] theorem t179_eg : Tryz.prog.eqGuardType Tryz.prog.depth 179 = false := by kernel_rfl
@[go_sem] theorem t179_fl : eqFlds Tryz.prog 179 = some [(3, 0), (9, 1), (9, 2)] := by kernel_rfl
@[go_sem] theorem t179_eq (neg : Bool) (xs ys : List T) : eqAggT Tryz.prog neg 179 (.agg xs) (.agg ys) = (match toVs xs, toVs ys with | some us, some ws => (eqL Tryz.prog 19 [(3, 0), (9, 1), (9, 2)] us ws).map fun b => .v (.bool (if neg = true then !b else b)) | _, _ => none) := eqAgg_t t179_eg t179_ag t179_fl neg xs ys
@[go_sem] theorem t182_sz : szT Tryz.prog 182 = some 5 := by kernel_rfl
@[go_sem] theorem t182_by : bytesT Tryz.prog 182 = some 64 := by kernel_rfl
@[go_sem] theorem t182_ag : aggT Tryz.prog 182 = some true := by kernel_rfl
@[go_sem] theorem t182_ze : zeroT Tryz.prog 182 = some [.v (.int .i64 0), .v (.int .i64 0), .v (.string ⟨#[]⟩), .v (.slice none 0 0), .v (.int .i64 0)] := by kernel_rfl
@[go_sem] theorem t182_f0 : fldT Tryz.prog 182 0 = some (0, 1, 3) := by kernel_rfl
@[go_sem] theorem t182_f1 : fldT Tryz.prog 182 1 = some (1, 1, 3) := by kernel_rfl
@[go_sem] theorem t182_f2 : fldT Tryz.prog 182 2 = some (2, 1, 9) := by kernel_rfl
@[go_sem] theorem t182_f3 : fldT Tryz.prog 182 3 = some (3, 1, 46) := by kernel_rfl
@[go_sem] theorem t182_f4 : fldT Tryz.prog 182 4 = some (4, 1, 3) := by kernel_rfl
@[go_sem] theorem t182_fo : fldsOf Tryz.prog 182 = some [(0, 1), (1, 1), (2, 1), (3, 1), (4, 1)] := by kernel_rfl
@[go_sem] theorem t200_sz : szT Tryz.prog 200 = some 8 := by kernel_rfl
@[go_sem] theorem t200_by : bytesT Tryz.prog 200 = some 64 := by kernel_rfl
@[go_sem] theorem t200_ag : aggT Tryz.prog 200 = some true := by kernel_rfl
@[go_sem] theorem t200_ze : zeroT Tryz.prog 200 = some [.v (.int .i64 0), .v (.int .i64 0), .v (.int .i64 0), .v (.int .i64 0), .v (.int .i64 0), .v (.int .i64 0), .v (.int .i64 0), .v (.int .i64 0)] := by kernel_rfl
@[go_sem] theorem t200_fo : fldsOf Tryz.prog 200 = none := by kernel_rfl
@[go_sem] theorem t200_ea : eArr Tryz.prog 200 = some 1 := by kernel_rfl
@[go_sem] theorem t200_ar : arrT Tryz.prog 200 = some (8, 3) := by kernel_rfl
@[go_sem] theorem t200_el : elemT Tryz.prog 200 = none := by kernel_rfl
@[go_sem] theorem t206_sz : szT Tryz.prog 206 = some 5 := by kernel_rfl
@[go_sem] theorem t206_by : bytesT Tryz.prog 206 = some 48 := by kernel_rfl
@[go_sem] theorem t206_ag : aggT Tryz.prog 206 = some true := by kernel_rfl
@[go_sem] theorem t206_ze : zeroT Tryz.prog 206 = some [.v (.int .i64 0), .v (.int .i64 0), .v (.int .i64 0), .v (.int .i64 0), .v (.string ⟨#[]⟩)] := by kernel_rfl
@[go_sem] theorem t206_f0 : fldT Tryz.prog 206 0 = some (0, 1, 3) := by kernel_rfl
@[go_sem] theorem t206_f1 : fldT Tryz.prog 206 1 = some (1, 1, 3) := by kernel_rfl
@[go_sem] theorem t206_f2 : fldT Tryz.prog 206 2 = some (2, 1, 3) := by kernel_rfl
@[go_sem] theorem t206_f3 : fldT Tryz.prog 206 3 = some (3, 1, 3) := by kernel_rfl
@[go_sem] theorem t206_f4 : fldT Tryz.prog 206 4 = some (4, 1, 9) := by kernel_rfl
@[go_sem] theorem t206_fo : fldsOf Tryz.prog 206 = some [(0, 1), (1, 1), (2, 1), (3, 1), (4, 1)] := by kernel_rfl
@[go_sem] theorem t206_eg : Tryz.prog.eqGuardType Tryz.prog.depth 206 = false := by kernel_rfl
@[go_sem] theorem t206_fl : eqFlds Tryz.prog 206 = some [(3, 0), (3, 1), (3, 2), (3, 3), (9, 4)] := by kernel_rfl
@[go_sem] theorem t206_eq (neg : Bool) (xs ys : List T) : eqAggT Tryz.prog neg 206 (.agg xs) (.agg ys) = (match toVs xs, toVs ys with | some us, some ws => (eqL Tryz.prog 19 [(3, 0), (3, 1), (3, 2), (3, 3), (9, 4)] us ws).map fun b => .v (.bool (if neg = true then !b else b)) | _, _ => none) := eqAgg_t t206_eg t206_ag t206_fl neg xs ys
@[go_sem] theorem t207_sz : szT Tryz.prog 207 = some 6 := by kernel_rfl
@[go_sem] theorem t207_by : bytesT Tryz.prog 207 = some 56 := by kernel_rfl
@[go_sem] theorem t207_ag : aggT Tryz.prog 207 = some true := by kernel_rfl
@[go_sem] theorem t207_ze : zeroT Tryz.prog 207 = some [.v (.int .i64 0), .v (.int .i64 0), .v (.int .i64 0), .v (.int .i64 0), .v (.int .i64 0), .v (.string ⟨#[]⟩)] := by kernel_rfl
@[go_sem] theorem t207_f0 : fldT Tryz.prog 207 0 = some (0, 1, 3) := by kernel_rfl
@[go_sem] theorem t207_f1 : fldT Tryz.prog 207 1 = some (1, 5, 206) := by kernel_rfl
@[go_sem] theorem t207_fo : fldsOf Tryz.prog 207 = some [(0, 1), (1, 5)] := by kernel_rfl
@[go_sem] theorem t208_sz : szT Tryz.prog 208 = some 6 := by kernel_rfl
@[go_sem] theorem t208_by : bytesT Tryz.prog 208 = some 56 := by kernel_rfl
@[go_sem] theorem t208_ag : aggT Tryz.prog 208 = some true := by kernel_rfl
@[go_sem] theorem t208_ze : zeroT Tryz.prog 208 = some [.v (.int .i64 0), .v (.int .i64 0), .v (.int .i64 0), .v (.int .i64 0), .v (.int .i64 0), .v (.string ⟨#[]⟩)] := by kernel_rfl
@[go_sem] theorem t208_f0 : fldT Tryz.prog 208 0 = some (0, 1, 3) := by kernel_rfl
@[go_sem] theorem t208_f1 : fldT Tryz.prog 208 1 = some (1, 5, 206) := by kernel_rfl
@[go_sem] theorem t208_fo : fldsOf Tryz.prog 208 = some [(0, 1), (1, 5)] := by kernel_rfl
@[go_sem] theorem t215_sz : szT Tryz.prog 215 = some 64 := by kernel_rfl
@[go_sem] theorem t215_by : bytesT Tryz.prog 215 = some 512 := by kernel_rfl
@[go_sem] theorem t215_ag : aggT Tryz.prog 215 = some true := by kernel_rfl
@[go_sem] theorem t215_ze : zeroT Tryz.prog 215 = some [.v (.int .i64 0), .v (.int .i64 0), .v (.int .i64 0), .v (.int .i64 0), .v (.int .i64 0), .v (.int .i64 0), .v (.int .i64 0), .v (.int .i64 0), .v (.int .i64 0), .v (.int .i64 0), .v (.int .i64 0), .v (.int .i64 0), .v (.int .i64 0), .v (.int .i64 0), .v (.int .i64 0), .v (.int .i64 0), .v (.int .i64 0), .v (.int .i64 0), .v (.int .i64 0), .v (.int .i64 0), .v (.int .i64 0), .v (.int .i64 0), .v (.int .i64 0), .v (.int .i64 0), .v (.int .i64 0), .v (.int .i64 0), .v (.int .i64 0), .v (.int .i64 0), .v (.int .i64 0), .v (.int .i64 0), .v (.int .i64 0), .v (.int .i64 0), .v (.int .i64 0), .v (.int .i64 0), .v (.int .i64 0), .v (.int .i64 0), .v (.int .i64 0), .v (.int .i64 0), .v (.int .i64 0), .v (.int .i64 0), .v (.int .i64 0), .v (.int .i64 0), .v (.int .i64 0), .v (.int .i64 0), .v (.int .i64 0), .v (.int .i64 0), .v (.int .i64 0), .v (.int .i64 0), .v (.int .i64 0), .v (.int .i64 0), .v (.int .i64 0), .v (.int .i64 0), .v (.int .i64 0), .v (.int .i64 0), .v (.int .i64 0), .v (.int .i64 0), .v (.int .i64 0), .v (.int .i64 0), .v (.int .i64 0), .v (.int .i64 0), .v (.int .i64 0), .v (.int .i64 0), .v (.int .i64 0), .v (.int .i64 0)] := by kernel_rfl
@[go_sem] theorem t215_fo : fldsOf Tryz.prog 215 = none := by kernel_rfl
@[go_sem] theorem t215_ea : eArr Tryz.prog 215 = some 1 := by kernel_rfl
@[go_sem] theorem t215_ar : arrT Tryz.prog 215 = some (64, 3) := by kernel_rfl
@[go_sem] theorem t215_el : elemT Tryz.prog 215 = none := by kernel_rfl
@[go_sem] theorem t219_sz : szT Tryz.prog 219 = some 1 := by kernel_rfl
@[go_sem] theorem t219_by : bytesT Tryz.prog 219 = some 8 := by kernel_rfl
@[go_sem] theorem t219_ag : aggT Tryz.prog 219 = some false := by kernel_rfl
@[go_sem] theorem t219_ze : zeroT Tryz.prog 219 = some [.v (.int .i64 0)] := by kernel_rfl
@[go_sem] theorem t219_un : Tryz.prog.underlying 219 = some (.int .i64) := by kernel_rfl
@[go_sem] theorem t219_ec (m : Nat) (k : IntKind) (a b : Int) : eqC Tryz.prog (m + 1) 219 [.int k a] [.int k b] = some (decide (a = b)) := eqC_int t219_un k a b
@[go_sem] theorem t228_sz : szT Tryz.prog 228 = some 1 := by kernel_rfl
@[go_sem] theorem t228_by : bytesT Tryz.prog 228 = some 4 := by kernel_rfl
@[go_sem] theorem t228_ag : aggT Tryz.prog 228 = some false := by kernel_rfl
@[go_sem] theorem t228_ze : zeroT Tryz.prog 228 = some [.v (.int .u32 0)] := by kernel_rfl
@[go_sem] theorem t228_un : Tryz.prog.underlying 228 = some (.int .u32) := by kernel_rfl
@[go_sem] theorem t228_ec (m : Nat) (k : IntKind) (a b : Int) : eqC Tryz.prog (m + 1) 228 [.int k a] [.int k b] = some (decide (a = b)) := eqC_int t228_un k a b
@[go_sem] theorem t230_sz : szT Tryz.prog 230 = some 1 := by kernel_rfl
@[go_sem] theorem t230_by : bytesT Tryz.prog 230 = some 8 := by kernel_rfl
@[go_sem] theorem t230_ag : aggT Tryz.prog 230 = some false := by kernel_rfl
@[go_sem] theorem t230_ze : zeroT Tryz.prog 230 = some [.v (.int .u64 0)] := by kernel_rfl
@[go_sem] theorem t230_un : Tryz.prog.underlying 230 = some (.int .u64) := by kernel_rfl
@[go_sem] theorem t230_ec (m : Nat) (k : IntKind) (a b : Int) : eqC Tryz.prog (m + 1) 230 [.int k a] [.int k b] = some (decide (a = b)) := eqC_int t230_un k a b
@[go_sem] theorem t237_sz : szT Tryz.prog 237 = some 1 := by kernel_rfl
@[go_sem] theorem t237_by : bytesT Tryz.prog 237 = some 8 := by kernel_rfl
@[go_sem] theorem t237_ag : aggT Tryz.prog 237 = some false := by kernel_rfl
@[go_sem] theorem t237_ze : zeroT Tryz.prog 237 = some [.v (.int .u64 0)] := by kernel_rfl
@[go_sem] theorem t237_un : Tryz.prog.underlying 237 = some (.int .u64) := by kernel_rfl
@[go_sem] theorem t237_ec (m : Nat) (k : IntKind) (a b : Int) : eqC Tryz.prog (m + 1) 237 [.int k a] [.int k b] = some (decide (a = b)) := eqC_int t237_un k a b
abbrev F.laws_FnExactFleetOk : FuncId := 3
theorem C.laws_FnExactFleetOk : Tryz.prog.funcs[F.laws_FnExactFleetOk]? = some Tryz.f3 := Tryz.func3
abbrev F.laws_FnExactFleetAhead : FuncId := 4
theorem C.laws_FnExactFleetAhead : Tryz.prog.funcs[F.laws_FnExactFleetAhead]? = some Tryz.f4 := Tryz.func4
abbrev F.laws_FnExactJudgeLeads : FuncId := 5
theorem C.laws_FnExactJudgeLeads : Tryz.prog.funcs[F.laws_FnExactJudgeLeads]? = some Tryz.f5 := Tryz.func5
abbrev F.laws_FnExactJudgeLogs : FuncId := 6
theorem C.laws_FnExactJudgeLogs : Tryz.prog.funcs[F.laws_FnExactJudgeLogs]? = some Tryz.f6 := Tryz.func6
abbrev F.laws_FnExactJudgeTexts : FuncId := 7
theorem C.laws_FnExactJudgeTexts : Tryz.prog.funcs[F.laws_FnExactJudgeTexts]? = some Tryz.f7 := Tryz.func7
abbrev F.laws_FnExactJudgeRolls : FuncId := 8
theorem C.laws_FnExactJudgeRolls : Tryz.prog.funcs[F.laws_FnExactJudgeRolls]? = some Tryz.f8 := Tryz.func8
abbrev F.laws_FnExactJudgeFleet : FuncId := 9
theorem C.laws_FnExactJudgeFleet : Tryz.prog.funcs[F.laws_FnExactJudgeFleet]? = some Tryz.f9 := Tryz.func9
abbrev F.laws_szFleet : FuncId := 10
theorem C.laws_szFleet : Tryz.prog.funcs[F.laws_szFleet]? = some Tryz.f10 := Tryz.func10
abbrev F.spec_FleetOk : FuncId := 11
theorem C.spec_FleetOk : Tryz.prog.funcs[F.spec_FleetOk]? = some Tryz.f11 := Tryz.func11
abbrev F.laws_toFleet : FuncId := 12
theorem C.laws_toFleet : Tryz.prog.funcs[F.laws_toFleet]? = some Tryz.f12 := Tryz.func12
abbrev F.impl_FleetOk : FuncId := 13
theorem C.impl_FleetOk : Tryz.prog.funcs[F.impl_FleetOk]? = some Tryz.f13 := Tryz.func13
abbrev F.laws_eqFleet : FuncId := 14
theorem C.laws_eqFleet : Tryz.prog.funcs[F.laws_eqFleet]? = some Tryz.f14 := Tryz.func14
abbrev F.spec_FleetAhead : FuncId := 15
theorem C.spec_FleetAhead : Tryz.prog.funcs[F.spec_FleetAhead]? = some Tryz.f15 := Tryz.func15
abbrev F.impl_FleetAhead : FuncId := 16
theorem C.impl_FleetAhead : Tryz.prog.funcs[F.impl_FleetAhead]? = some Tryz.f16 := Tryz.func16
abbrev F.spec_JudgeLeads : FuncId := 17
theorem C.spec_JudgeLeads : Tryz.prog.funcs[F.spec_JudgeLeads]? = some Tryz.f17 := Tryz.func17
abbrev F.impl_JudgeLeads : FuncId := 18
theorem C.impl_JudgeLeads : Tryz.prog.funcs[F.impl_JudgeLeads]? = some Tryz.f18 := Tryz.func18
abbrev F.spec_JudgeLogs : FuncId := 19
theorem C.spec_JudgeLogs : Tryz.prog.funcs[F.spec_JudgeLogs]? = some Tryz.f19 := Tryz.func19
abbrev F.impl_JudgeLogs : FuncId := 20
theorem C.impl_JudgeLogs : Tryz.prog.funcs[F.impl_JudgeLogs]? = some Tryz.f20 := Tryz.func20
abbrev F.spec_JudgeTexts : FuncId := 21
theorem C.spec_JudgeTexts : Tryz.prog.funcs[F.spec_JudgeTexts]? = some Tryz.f21 := Tryz.func21
abbrev F.impl_JudgeTexts : FuncId := 22
theorem C.impl_JudgeTexts : Tryz.prog.funcs[F.impl_JudgeTexts]? = some Tryz.f22 := Tryz.func22
abbrev F.spec_JudgeRolls : FuncId := 23
theorem C.spec_JudgeRolls : Tryz.prog.funcs[F.spec_JudgeRolls]? = some Tryz.f23 := Tryz.func23
abbrev F.impl_JudgeRolls : FuncId := 24
theorem C.impl_JudgeRolls : Tryz.prog.funcs[F.impl_JudgeRolls]? = some Tryz.f24 := Tryz.func24
abbrev F.spec_JudgeFleet : FuncId := 25
theorem C.spec_JudgeFleet : Tryz.prog.funcs[F.spec_JudgeFleet]? = some Tryz.f25 := Tryz.func25
abbrev F.impl_JudgeFleet : FuncId := 26
theorem C.impl_JudgeFleet : Tryz.prog.funcs[F.impl_JudgeFleet]? = some Tryz.f26 := Tryz.func26
abbrev F.laws_szMemberS : FuncId := 27
theorem C.laws_szMemberS : Tryz.prog.funcs[F.laws_szMemberS]? = some Tryz.f27 := Tryz.func27
abbrev F.laws_szFlightS : FuncId := 28
theorem C.laws_szFlightS : Tryz.prog.funcs[F.laws_szFlightS]? = some Tryz.f28 := Tryz.func28
abbrev F.spec_l7Of : FuncId := 29
theorem C.spec_l7Of : Tryz.prog.funcs[F.spec_l7Of]? = some Tryz.f29 := Tryz.func29
abbrev F.spec_l15Member : FuncId := 30
theorem C.spec_l15Member : Tryz.prog.funcs[F.spec_l15Member]? = some Tryz.f30 := Tryz.func30
abbrev F.spec_l1In : FuncId := 31
theorem C.spec_l1In : Tryz.prog.funcs[F.spec_l1In]? = some Tryz.f31 := Tryz.func31
abbrev F.laws_toMemberS : FuncId := 32
theorem C.laws_toMemberS : Tryz.prog.funcs[F.laws_toMemberS]? = some Tryz.f32 := Tryz.func32
abbrev F.laws_toFlightS : FuncId := 33
theorem C.laws_toFlightS : Tryz.prog.funcs[F.laws_toFlightS]? = some Tryz.f33 := Tryz.func33
abbrev F.impl_isOf : FuncId := 34
theorem C.impl_isOf : Tryz.prog.funcs[F.impl_isOf]? = some Tryz.f34 := Tryz.func34
abbrev F.impl_memberOk : FuncId := 35
theorem C.impl_memberOk : Tryz.prog.funcs[F.impl_memberOk]? = some Tryz.f35 := Tryz.func35
abbrev F.impl_within : FuncId := 36
theorem C.impl_within : Tryz.prog.funcs[F.impl_within]? = some Tryz.f36 := Tryz.func36
abbrev F.laws_eqMemberS : FuncId := 37
theorem C.laws_eqMemberS : Tryz.prog.funcs[F.laws_eqMemberS]? = some Tryz.f37 := Tryz.func37
abbrev F.laws_eqFlightS : FuncId := 38
theorem C.laws_eqFlightS : Tryz.prog.funcs[F.laws_eqFlightS]? = some Tryz.f38 := Tryz.func38
abbrev F.impl_upOf : FuncId := 39
theorem C.impl_upOf : Tryz.prog.funcs[F.impl_upOf]? = some Tryz.f39 := Tryz.func39
abbrev F.slices_Contains_int : FuncId := 40
theorem C.slices_Contains_int : Tryz.prog.funcs[F.slices_Contains_int]? = some Tryz.f40 := Tryz.func40
abbrev F.spec_l1Min : FuncId := 41
theorem C.spec_l1Min : Tryz.prog.funcs[F.spec_l1Min]? = some Tryz.f41 := Tryz.func41
abbrev F.slices_Equal_Entry : FuncId := 42
theorem C.slices_Equal_Entry : Tryz.prog.funcs[F.slices_Equal_Entry]? = some Tryz.f42 := Tryz.func42
abbrev F.spec_HeldText : FuncId := 43
theorem C.spec_HeldText : Tryz.prog.funcs[F.spec_HeldText]? = some Tryz.f43 := Tryz.func43
abbrev F.spec_RollFind : FuncId := 44
theorem C.spec_RollFind : Tryz.prog.funcs[F.spec_RollFind]? = some Tryz.f44 := Tryz.func44
abbrev F.spec_l14Find : FuncId := 45
theorem C.spec_l14Find : Tryz.prog.funcs[F.spec_l14Find]? = some Tryz.f45 := Tryz.func45
abbrev F.impl_hasText : FuncId := 46
theorem C.impl_hasText : Tryz.prog.funcs[F.impl_hasText]? = some Tryz.f46 := Tryz.func46
abbrev F.spec_RollRun : FuncId := 47
theorem C.spec_RollRun : Tryz.prog.funcs[F.spec_RollRun]? = some Tryz.f47 := Tryz.func47
abbrev F.spec_RollNew : FuncId := 48
theorem C.spec_RollNew : Tryz.prog.funcs[F.spec_RollNew]? = some Tryz.f48 := Tryz.func48
abbrev F.spec_l16SameRoll : FuncId := 49
theorem C.spec_l16SameRoll : Tryz.prog.funcs[F.spec_l16SameRoll]? = some Tryz.f49 := Tryz.func49
abbrev F.impl_RollRun : FuncId := 50
theorem C.impl_RollRun : Tryz.prog.funcs[F.impl_RollRun]? = some Tryz.f50 := Tryz.func50
abbrev F.impl_RollNew : FuncId := 51
theorem C.impl_RollNew : Tryz.prog.funcs[F.impl_RollNew]? = some Tryz.f51 := Tryz.func51
abbrev F.impl_sameRoll : FuncId := 52
theorem C.impl_sameRoll : Tryz.prog.funcs[F.impl_sameRoll]? = some Tryz.f52 := Tryz.func52
abbrev F.laws_szMember : FuncId := 53
theorem C.laws_szMember : Tryz.prog.funcs[F.laws_szMember]? = some Tryz.f53 := Tryz.func53
abbrev F.laws_szFlight : FuncId := 54
theorem C.laws_szFlight : Tryz.prog.funcs[F.laws_szFlight]? = some Tryz.f54 := Tryz.func54
abbrev F.spec_DiskOk : FuncId := 55
theorem C.spec_DiskOk : Tryz.prog.funcs[F.spec_DiskOk]? = some Tryz.f55 := Tryz.func55
abbrev F.spec_RaftOk : FuncId := 56
theorem C.spec_RaftOk : Tryz.prog.funcs[F.spec_RaftOk]? = some Tryz.f56 := Tryz.func56
abbrev F.spec_RollOk : FuncId := 57
theorem C.spec_RollOk : Tryz.prog.funcs[F.spec_RollOk]? = some Tryz.f57 := Tryz.func57
abbrev F.spec_HeldsOk : FuncId := 58
theorem C.spec_HeldsOk : Tryz.prog.funcs[F.spec_HeldsOk]? = some Tryz.f58 := Tryz.func58
abbrev F.laws_toMember : FuncId := 59
theorem C.laws_toMember : Tryz.prog.funcs[F.laws_toMember]? = some Tryz.f59 := Tryz.func59
abbrev F.laws_toFlight : FuncId := 60
theorem C.laws_toFlight : Tryz.prog.funcs[F.laws_toFlight]? = some Tryz.f60 := Tryz.func60
abbrev F.impl_DiskOk : FuncId := 61
theorem C.impl_DiskOk : Tryz.prog.funcs[F.impl_DiskOk]? = some Tryz.f61 := Tryz.func61
abbrev F.impl_isBare : FuncId := 62
theorem C.impl_isBare : Tryz.prog.funcs[F.impl_isBare]? = some Tryz.f62 := Tryz.func62
abbrev F.impl_RaftOk : FuncId := 63
theorem C.impl_RaftOk : Tryz.prog.funcs[F.impl_RaftOk]? = some Tryz.f63 := Tryz.func63
abbrev F.impl_RollOk : FuncId := 64
theorem C.impl_RollOk : Tryz.prog.funcs[F.impl_RollOk]? = some Tryz.f64 := Tryz.func64
abbrev F.impl_HeldsOk : FuncId := 65
theorem C.impl_HeldsOk : Tryz.prog.funcs[F.impl_HeldsOk]? = some Tryz.f65 := Tryz.func65
abbrev F.laws_eqMember : FuncId := 66
theorem C.laws_eqMember : Tryz.prog.funcs[F.laws_eqMember]? = some Tryz.f66 := Tryz.func66
abbrev F.laws_eqFlight : FuncId := 67
theorem C.laws_eqFlight : Tryz.prog.funcs[F.laws_eqFlight]? = some Tryz.f67 := Tryz.func67
abbrev F.slices_Index_int : FuncId := 68
theorem C.slices_Index_int : Tryz.prog.funcs[F.slices_Index_int]? = some Tryz.f68 := Tryz.func68
abbrev F.spec_ParcelWhole : FuncId := 69
theorem C.spec_ParcelWhole : Tryz.prog.funcs[F.spec_ParcelWhole]? = some Tryz.f69 := Tryz.func69
abbrev F.spec_l7Find : FuncId := 70
theorem C.spec_l7Find : Tryz.prog.funcs[F.spec_l7Find]? = some Tryz.f70 := Tryz.func70
abbrev F.impl_RollFind : FuncId := 71
theorem C.impl_RollFind : Tryz.prog.funcs[F.impl_RollFind]? = some Tryz.f71 := Tryz.func71
abbrev F.impl_HeldText : FuncId := 72
theorem C.impl_HeldText : Tryz.prog.funcs[F.impl_HeldText]? = some Tryz.f72 := Tryz.func72
abbrev F.impl_heldAt : FuncId := 73
theorem C.impl_heldAt : Tryz.prog.funcs[F.impl_heldAt]? = some Tryz.f73 := Tryz.func73
abbrev F.spec_l7Copy : FuncId := 74
theorem C.spec_l7Copy : Tryz.prog.funcs[F.spec_l7Copy]? = some Tryz.f74 := Tryz.func74
abbrev F.spec_RollApply : FuncId := 75
theorem C.spec_RollApply : Tryz.prog.funcs[F.spec_RollApply]? = some Tryz.f75 := Tryz.func75
abbrev F.impl_copyRoll : FuncId := 76
theorem C.impl_copyRoll : Tryz.prog.funcs[F.impl_copyRoll]? = some Tryz.f76 := Tryz.func76
abbrev F.impl_RollApply : FuncId := 77
theorem C.impl_RollApply : Tryz.prog.funcs[F.impl_RollApply]? = some Tryz.f77 := Tryz.func77
abbrev F.slices_EqualFunc_Rel : FuncId := 78
theorem C.slices_EqualFunc_Rel : Tryz.prog.funcs[F.slices_EqualFunc_Rel]? = some Tryz.f78 := Tryz.func78
abbrev F.impl_sameRel : FuncId := 79
theorem C.impl_sameRel : Tryz.prog.funcs[F.impl_sameRel]? = some Tryz.f79 := Tryz.func79
abbrev F.slices_Equal_int : FuncId := 80
theorem C.slices_Equal_int : Tryz.prog.funcs[F.slices_Equal_int]? = some Tryz.f80 := Tryz.func80
abbrev F.laws_szDisk : FuncId := 81
theorem C.laws_szDisk : Tryz.prog.funcs[F.laws_szDisk]? = some Tryz.f81 := Tryz.func81
abbrev F.laws_szRaft : FuncId := 82
theorem C.laws_szRaft : Tryz.prog.funcs[F.laws_szRaft]? = some Tryz.f82 := Tryz.func82
abbrev F.laws_szRoll : FuncId := 83
theorem C.laws_szRoll : Tryz.prog.funcs[F.laws_szRoll]? = some Tryz.f83 := Tryz.func83
abbrev F.laws_szHeldS : FuncId := 84
theorem C.laws_szHeldS : Tryz.prog.funcs[F.laws_szHeldS]? = some Tryz.f84 := Tryz.func84
abbrev F.spec_l3Size : FuncId := 85
theorem C.spec_l3Size : Tryz.prog.funcs[F.spec_l3Size]? = some Tryz.f85 := Tryz.func85
abbrev F.spec_l3Name : FuncId := 86
theorem C.spec_l3Name : Tryz.prog.funcs[F.spec_l3Name]? = some Tryz.f86 := Tryz.func86
abbrev F.spec_HardOk : FuncId := 87
theorem C.spec_HardOk : Tryz.prog.funcs[F.spec_HardOk]? = some Tryz.f87 := Tryz.func87
abbrev F.spec_l10End : FuncId := 88
theorem C.spec_l10End : Tryz.prog.funcs[F.spec_l10End]? = some Tryz.f88 := Tryz.func88
abbrev F.spec_l7Nodes : FuncId := 89
theorem C.spec_l7Nodes : Tryz.prog.funcs[F.spec_l7Nodes]? = some Tryz.f89 := Tryz.func89
abbrev F.spec_l7Has : FuncId := 90
theorem C.spec_l7Has : Tryz.prog.funcs[F.spec_l7Has]? = some Tryz.f90 := Tryz.func90
abbrev F.spec_ParcelOk : FuncId := 91
theorem C.spec_ParcelOk : Tryz.prog.funcs[F.spec_ParcelOk]? = some Tryz.f91 := Tryz.func91
abbrev F.laws_toDisk : FuncId := 92
theorem C.laws_toDisk : Tryz.prog.funcs[F.laws_toDisk]? = some Tryz.f92 := Tryz.func92
abbrev F.laws_toRaft : FuncId := 93
theorem C.laws_toRaft : Tryz.prog.funcs[F.laws_toRaft]? = some Tryz.f93 := Tryz.func93
abbrev F.laws_toRoll : FuncId := 94
theorem C.laws_toRoll : Tryz.prog.funcs[F.laws_toRoll]? = some Tryz.f94 := Tryz.func94
abbrev F.laws_toHeldS : FuncId := 95
theorem C.laws_toHeldS : Tryz.prog.funcs[F.laws_toHeldS]? = some Tryz.f95 := Tryz.func95
abbrev F.impl_isFile : FuncId := 96
theorem C.impl_isFile : Tryz.prog.funcs[F.impl_isFile]? = some Tryz.f96 := Tryz.func96
abbrev F.impl_sizeOf : FuncId := 97
theorem C.impl_sizeOf : Tryz.prog.funcs[F.impl_sizeOf]? = some Tryz.f97 := Tryz.func97
abbrev F.impl_HardOk : FuncId := 98
theorem C.impl_HardOk : Tryz.prog.funcs[F.impl_HardOk]? = some Tryz.f98 := Tryz.func98
abbrev F.impl_nodesAscend : FuncId := 99
theorem C.impl_nodesAscend : Tryz.prog.funcs[F.impl_nodesAscend]? = some Tryz.f99 := Tryz.func99
abbrev F.impl_numbersIn : FuncId := 100
theorem C.impl_numbersIn : Tryz.prog.funcs[F.impl_numbersIn]? = some Tryz.f100 := Tryz.func100
abbrev F.impl_isRelease : FuncId := 101
theorem C.impl_isRelease : Tryz.prog.funcs[F.impl_isRelease]? = some Tryz.f101 := Tryz.func101
abbrev F.impl_isSize : FuncId := 102
theorem C.impl_isSize : Tryz.prog.funcs[F.impl_isSize]? = some Tryz.f102 := Tryz.func102
abbrev F.impl_ParcelOk : FuncId := 103
theorem C.impl_ParcelOk : Tryz.prog.funcs[F.impl_ParcelOk]? = some Tryz.f103 := Tryz.func103
abbrev F.laws_eqDisk : FuncId := 104
theorem C.laws_eqDisk : Tryz.prog.funcs[F.laws_eqDisk]? = some Tryz.f104 := Tryz.func104
abbrev F.laws_eqRaft : FuncId := 105
theorem C.laws_eqRaft : Tryz.prog.funcs[F.laws_eqRaft]? = some Tryz.f105 := Tryz.func105
abbrev F.laws_eqRoll : FuncId := 106
theorem C.laws_eqRoll : Tryz.prog.funcs[F.laws_eqRoll]? = some Tryz.f106 := Tryz.func106
abbrev F.laws_eqHeldS : FuncId := 107
theorem C.laws_eqHeldS : Tryz.prog.funcs[F.laws_eqHeldS]? = some Tryz.f107 := Tryz.func107
abbrev F.spec_Sha : FuncId := 108
theorem C.spec_Sha : Tryz.prog.funcs[F.spec_Sha]? = some Tryz.f108 := Tryz.func108
abbrev F.impl_relAt : FuncId := 109
theorem C.impl_relAt : Tryz.prog.funcs[F.impl_relAt]? = some Tryz.f109 := Tryz.func109
abbrev F.impl_copyRel : FuncId := 110
theorem C.impl_copyRel : Tryz.prog.funcs[F.impl_copyRel]? = some Tryz.f110 := Tryz.func110
abbrev F.impl_ParcelWhole : FuncId := 111
theorem C.impl_ParcelWhole : Tryz.prog.funcs[F.impl_ParcelWhole]? = some Tryz.f111 := Tryz.func111
abbrev F.slices_IndexFunc_Held : FuncId := 112
theorem C.slices_IndexFunc_Held : Tryz.prog.funcs[F.slices_IndexFunc_Held]? = some Tryz.f112 := Tryz.func112
abbrev F.impl_heldAt_1 : FuncId := 113
theorem C.impl_heldAt_1 : Tryz.prog.funcs[F.impl_heldAt_1]? = some Tryz.f113 := Tryz.func113
abbrev F.spec_CmdOk : FuncId := 114
theorem C.spec_CmdOk : Tryz.prog.funcs[F.spec_CmdOk]? = some Tryz.f114 := Tryz.func114
abbrev F.spec_l7Put : FuncId := 115
theorem C.spec_l7Put : Tryz.prog.funcs[F.spec_l7Put]? = some Tryz.f115 := Tryz.func115
abbrev F.impl_copyInts : FuncId := 116
theorem C.impl_copyInts : Tryz.prog.funcs[F.impl_copyInts]? = some Tryz.f116 := Tryz.func116
abbrev F.impl_CmdOk : FuncId := 117
theorem C.impl_CmdOk : Tryz.prog.funcs[F.impl_CmdOk]? = some Tryz.f117 := Tryz.func117
abbrev F.impl_Roll_announce : FuncId := 118
theorem C.impl_Roll_announce : Tryz.prog.funcs[F.impl_Roll_announce]? = some Tryz.f118 := Tryz.func118
abbrev F.impl_Roll_turn : FuncId := 119
theorem C.impl_Roll_turn : Tryz.prog.funcs[F.impl_Roll_turn]? = some Tryz.f119 := Tryz.func119
abbrev F.laws_szFileS : FuncId := 120
theorem C.laws_szFileS : Tryz.prog.funcs[F.laws_szFileS]? = some Tryz.f120 := Tryz.func120
abbrev F.laws_szHard : FuncId := 121
theorem C.laws_szHard : Tryz.prog.funcs[F.laws_szHard]? = some Tryz.f121 := Tryz.func121
abbrev F.laws_szIntS : FuncId := 122
theorem C.laws_szIntS : Tryz.prog.funcs[F.laws_szIntS]? = some Tryz.f122 := Tryz.func122
abbrev F.laws_szRelS : FuncId := 123
theorem C.laws_szRelS : Tryz.prog.funcs[F.laws_szRelS]? = some Tryz.f123 := Tryz.func123
abbrev F.laws_szHeld : FuncId := 124
theorem C.laws_szHeld : Tryz.prog.funcs[F.laws_szHeld]? = some Tryz.f124 := Tryz.func124
abbrev F.spec_l1Whole : FuncId := 125
theorem C.spec_l1Whole : Tryz.prog.funcs[F.spec_l1Whole]? = some Tryz.f125 := Tryz.func125
abbrev F.spec_l6Entry : FuncId := 126
theorem C.spec_l6Entry : Tryz.prog.funcs[F.spec_l6Entry]? = some Tryz.f126 := Tryz.func126
abbrev F.spec_PartsOf : FuncId := 127
theorem C.spec_PartsOf : Tryz.prog.funcs[F.spec_PartsOf]? = some Tryz.f127 := Tryz.func127
abbrev F.spec_l9Long : FuncId := 128
theorem C.spec_l9Long : Tryz.prog.funcs[F.spec_l9Long]? = some Tryz.f128 := Tryz.func128
abbrev F.laws_toFileS : FuncId := 129
theorem C.laws_toFileS : Tryz.prog.funcs[F.laws_toFileS]? = some Tryz.f129 := Tryz.func129
abbrev F.laws_toHard : FuncId := 130
theorem C.laws_toHard : Tryz.prog.funcs[F.laws_toHard]? = some Tryz.f130 := Tryz.func130
abbrev F.laws_toIntS : FuncId := 131
theorem C.laws_toIntS : Tryz.prog.funcs[F.laws_toIntS]? = some Tryz.f131 := Tryz.func131
abbrev F.laws_toRelS : FuncId := 132
theorem C.laws_toRelS : Tryz.prog.funcs[F.laws_toRelS]? = some Tryz.f132 := Tryz.func132
abbrev F.laws_toHeld : FuncId := 133
theorem C.laws_toHeld : Tryz.prog.funcs[F.laws_toHeld]? = some Tryz.f133 := Tryz.func133
abbrev F.impl_lastTerm : FuncId := 134
theorem C.impl_lastTerm : Tryz.prog.funcs[F.impl_lastTerm]? = some Tryz.f134 := Tryz.func134
abbrev F.impl_isWhole : FuncId := 135
theorem C.impl_isWhole : Tryz.prog.funcs[F.impl_isWhole]? = some Tryz.f135 := Tryz.func135
abbrev F.impl_PartsOf : FuncId := 136
theorem C.impl_PartsOf : Tryz.prog.funcs[F.impl_PartsOf]? = some Tryz.f136 := Tryz.func136
abbrev F.impl_partLong : FuncId := 137
theorem C.impl_partLong : Tryz.prog.funcs[F.impl_partLong]? = some Tryz.f137 := Tryz.func137
abbrev F.laws_eqFileS : FuncId := 138
theorem C.laws_eqFileS : Tryz.prog.funcs[F.laws_eqFileS]? = some Tryz.f138 := Tryz.func138
abbrev F.laws_eqHard : FuncId := 139
theorem C.laws_eqHard : Tryz.prog.funcs[F.laws_eqHard]? = some Tryz.f139 := Tryz.func139
abbrev F.laws_eqIntS : FuncId := 140
theorem C.laws_eqIntS : Tryz.prog.funcs[F.laws_eqIntS]? = some Tryz.f140 := Tryz.func140
abbrev F.laws_eqRelS : FuncId := 141
theorem C.laws_eqRelS : Tryz.prog.funcs[F.laws_eqRelS]? = some Tryz.f141 := Tryz.func141
abbrev F.laws_eqHeld : FuncId := 142
theorem C.laws_eqHeld : Tryz.prog.funcs[F.laws_eqHeld]? = some Tryz.f142 := Tryz.func142
abbrev F.spec_l2Block : FuncId := 143
theorem C.spec_l2Block : Tryz.prog.funcs[F.spec_l2Block]? = some Tryz.f143 := Tryz.func143
abbrev F.slices_IndexFunc_Rel : FuncId := 144
theorem C.slices_IndexFunc_Rel : Tryz.prog.funcs[F.slices_IndexFunc_Rel]? = some Tryz.f144 := Tryz.func144
abbrev F.impl_relAt_1 : FuncId := 145
theorem C.impl_relAt_1 : Tryz.prog.funcs[F.impl_relAt_1]? = some Tryz.f145 := Tryz.func145
abbrev F.strings_Join : FuncId := 146
theorem C.strings_Join : Tryz.prog.funcs[F.strings_Join]? = some Tryz.f146 := Tryz.func146
abbrev F.impl_ParcelLacks : FuncId := 147
theorem C.impl_ParcelLacks : Tryz.prog.funcs[F.impl_ParcelLacks]? = some Tryz.f147 := Tryz.func147
abbrev F.impl_Sha : FuncId := 148
theorem C.impl_Sha : Tryz.prog.funcs[F.impl_Sha]? = some Tryz.f148 := Tryz.func148
abbrev F.impl_isNode : FuncId := 149
theorem C.impl_isNode : Tryz.prog.funcs[F.impl_isNode]? = some Tryz.f149 := Tryz.func149
abbrev F.slices_Sort_int : FuncId := 150
theorem C.slices_Sort_int : Tryz.prog.funcs[F.slices_Sort_int]? = some Tryz.f150 := Tryz.func150
abbrev F.laws_szFile : FuncId := 151
theorem C.laws_szFile : Tryz.prog.funcs[F.laws_szFile]? = some Tryz.f151 := Tryz.func151
abbrev F.laws_szEntryS : FuncId := 152
theorem C.laws_szEntryS : Tryz.prog.funcs[F.laws_szEntryS]? = some Tryz.f152 := Tryz.func152
abbrev F.laws_szRel : FuncId := 153
theorem C.laws_szRel : Tryz.prog.funcs[F.laws_szRel]? = some Tryz.f153 := Tryz.func153
abbrev F.laws_szParcel : FuncId := 154
theorem C.laws_szParcel : Tryz.prog.funcs[F.laws_szParcel]? = some Tryz.f154 := Tryz.func154
abbrev F.laws_toFile : FuncId := 155
theorem C.laws_toFile : Tryz.prog.funcs[F.laws_toFile]? = some Tryz.f155 := Tryz.func155
abbrev F.laws_toEntryS : FuncId := 156
theorem C.laws_toEntryS : Tryz.prog.funcs[F.laws_toEntryS]? = some Tryz.f156 := Tryz.func156
abbrev F.laws_toRel : FuncId := 157
theorem C.laws_toRel : Tryz.prog.funcs[F.laws_toRel]? = some Tryz.f157 := Tryz.func157
abbrev F.laws_toParcel : FuncId := 158
theorem C.laws_toParcel : Tryz.prog.funcs[F.laws_toParcel]? = some Tryz.f158 := Tryz.func158
abbrev F.laws_eqFile : FuncId := 159
theorem C.laws_eqFile : Tryz.prog.funcs[F.laws_eqFile]? = some Tryz.f159 := Tryz.func159
abbrev F.laws_eqEntryS : FuncId := 160
theorem C.laws_eqEntryS : Tryz.prog.funcs[F.laws_eqEntryS]? = some Tryz.f160 := Tryz.func160
abbrev F.laws_eqRel : FuncId := 161
theorem C.laws_eqRel : Tryz.prog.funcs[F.laws_eqRel]? = some Tryz.f161 := Tryz.func161
abbrev F.laws_eqParcel : FuncId := 162
theorem C.laws_eqParcel : Tryz.prog.funcs[F.laws_eqParcel]? = some Tryz.f162 := Tryz.func162
abbrev F.spec_l2Turn : FuncId := 163
theorem C.spec_l2Turn : Tryz.prog.funcs[F.spec_l2Turn]? = some Tryz.f163 := Tryz.func163
abbrev F.spec_l2Low : FuncId := 164
theorem C.spec_l2Low : Tryz.prog.funcs[F.spec_l2Low]? = some Tryz.f164 := Tryz.func164
abbrev F.spec_l2Keys : FuncId := 165
theorem C.spec_l2Keys : Tryz.prog.funcs[F.spec_l2Keys]? = some Tryz.f165 := Tryz.func165
abbrev F.strings_Builder_Grow : FuncId := 166
theorem C.strings_Builder_Grow : Tryz.prog.funcs[F.strings_Builder_Grow]? = some Tryz.f166 := Tryz.func166
abbrev F.strings_Builder_WriteString : FuncId := 167
theorem C.strings_Builder_WriteString : Tryz.prog.funcs[F.strings_Builder_WriteString]? = some Tryz.f167 := Tryz.func167
abbrev F.strings_Builder_String : FuncId := 168
theorem C.strings_Builder_String : Tryz.prog.funcs[F.strings_Builder_String]? = some Tryz.f168 := Tryz.func168
abbrev F.impl_firstWords : FuncId := 169
theorem C.impl_firstWords : Tryz.prog.funcs[F.impl_firstWords]? = some Tryz.f169 := Tryz.func169
abbrev F.impl_round : FuncId := 170
theorem C.impl_round : Tryz.prog.funcs[F.impl_round]? = some Tryz.f170 := Tryz.func170
abbrev F.slices_pdqsortOrdered_int : FuncId := 171
theorem C.slices_pdqsortOrdered_int : Tryz.prog.funcs[F.slices_pdqsortOrdered_int]? = some Tryz.f171 := Tryz.func171
abbrev F.math_bits_Len : FuncId := 172
theorem C.math_bits_Len : Tryz.prog.funcs[F.math_bits_Len]? = some Tryz.f172 := Tryz.func172
abbrev F.laws_szEntry : FuncId := 173
theorem C.laws_szEntry : Tryz.prog.funcs[F.laws_szEntry]? = some Tryz.f173 := Tryz.func173
abbrev F.laws_szStringS : FuncId := 174
theorem C.laws_szStringS : Tryz.prog.funcs[F.laws_szStringS]? = some Tryz.f174 := Tryz.func174
abbrev F.laws_toEntry : FuncId := 175
theorem C.laws_toEntry : Tryz.prog.funcs[F.laws_toEntry]? = some Tryz.f175 := Tryz.func175
abbrev F.laws_toStringS : FuncId := 176
theorem C.laws_toStringS : Tryz.prog.funcs[F.laws_toStringS]? = some Tryz.f176 := Tryz.func176
abbrev F.laws_eqEntry : FuncId := 177
theorem C.laws_eqEntry : Tryz.prog.funcs[F.laws_eqEntry]? = some Tryz.f177 := Tryz.func177
abbrev F.laws_eqStringS : FuncId := 178
theorem C.laws_eqStringS : Tryz.prog.funcs[F.laws_eqStringS]? = some Tryz.f178 := Tryz.func178
abbrev F.strings_Builder_copyCheck : FuncId := 179
theorem C.strings_Builder_copyCheck : Tryz.prog.funcs[F.strings_Builder_copyCheck]? = some Tryz.f179 := Tryz.func179
abbrev F.strings_Builder_grow : FuncId := 180
theorem C.strings_Builder_grow : Tryz.prog.funcs[F.strings_Builder_grow]? = some Tryz.f180 := Tryz.func180
abbrev F.impl_constants : FuncId := 181
theorem C.impl_constants : Tryz.prog.funcs[F.impl_constants]? = some Tryz.f181 := Tryz.func181
abbrev F.impl_expanded : FuncId := 182
theorem C.impl_expanded : Tryz.prog.funcs[F.impl_expanded]? = some Tryz.f182 := Tryz.func182
abbrev F.impl_turnRight : FuncId := 183
theorem C.impl_turnRight : Tryz.prog.funcs[F.impl_turnRight]? = some Tryz.f183 := Tryz.func183
abbrev F.slices_insertionSortOrdered_int : FuncId := 184
theorem C.slices_insertionSortOrdered_int : Tryz.prog.funcs[F.slices_insertionSortOrdered_int]? = some Tryz.f184 := Tryz.func184
abbrev F.slices_heapSortOrdered_int : FuncId := 185
theorem C.slices_heapSortOrdered_int : Tryz.prog.funcs[F.slices_heapSortOrdered_int]? = some Tryz.f185 := Tryz.func185
abbrev F.slices_breakPatternsOrdered_int : FuncId := 186
theorem C.slices_breakPatternsOrdered_int : Tryz.prog.funcs[F.slices_breakPatternsOrdered_int]? = some Tryz.f186 := Tryz.func186
abbrev F.slices_choosePivotOrdered_int : FuncId := 187
theorem C.slices_choosePivotOrdered_int : Tryz.prog.funcs[F.slices_choosePivotOrdered_int]? = some Tryz.f187 := Tryz.func187
abbrev F.slices_reverseRangeOrdered_int : FuncId := 188
theorem C.slices_reverseRangeOrdered_int : Tryz.prog.funcs[F.slices_reverseRangeOrdered_int]? = some Tryz.f188 := Tryz.func188
abbrev F.slices_partialInsertionSortOrdered_int : FuncId := 189
theorem C.slices_partialInsertionSortOrdered_int : Tryz.prog.funcs[F.slices_partialInsertionSortOrdered_int]? = some Tryz.f189 := Tryz.func189
abbrev F.cmp_Less_int : FuncId := 190
theorem C.cmp_Less_int : Tryz.prog.funcs[F.cmp_Less_int]? = some Tryz.f190 := Tryz.func190
abbrev F.slices_partitionEqualOrdered_int : FuncId := 191
theorem C.slices_partitionEqualOrdered_int : Tryz.prog.funcs[F.slices_partitionEqualOrdered_int]? = some Tryz.f191 := Tryz.func191
abbrev F.slices_partitionOrdered_int : FuncId := 192
theorem C.slices_partitionOrdered_int : Tryz.prog.funcs[F.slices_partitionOrdered_int]? = some Tryz.f192 := Tryz.func192
abbrev F.math_bits_Len32 : FuncId := 193
theorem C.math_bits_Len32 : Tryz.prog.funcs[F.math_bits_Len32]? = some Tryz.f193 := Tryz.func193
abbrev F.math_bits_Len64 : FuncId := 194
theorem C.math_bits_Len64 : Tryz.prog.funcs[F.math_bits_Len64]? = some Tryz.f194 := Tryz.func194
abbrev F.laws_szCmd : FuncId := 195
theorem C.laws_szCmd : Tryz.prog.funcs[F.laws_szCmd]? = some Tryz.f195 := Tryz.func195
abbrev F.laws_toCmd : FuncId := 196
theorem C.laws_toCmd : Tryz.prog.funcs[F.laws_toCmd]? = some Tryz.f196 := Tryz.func196
abbrev F.laws_eqCmd : FuncId := 197
theorem C.laws_eqCmd : Tryz.prog.funcs[F.laws_eqCmd]? = some Tryz.f197 := Tryz.func197
abbrev F.internal_abi_NoEscape : FuncId := 198
theorem C.internal_abi_NoEscape : Tryz.prog.funcs[F.internal_abi_NoEscape]? = some Tryz.f198 := Tryz.func198
abbrev F.internal_bytealg_MakeNoZero : FuncId := 199
theorem C.internal_bytealg_MakeNoZero : Tryz.prog.funcs[F.internal_bytealg_MakeNoZero]? = some Tryz.f199 := Tryz.func199
abbrev F.slices_siftDownOrdered_int : FuncId := 200
theorem C.slices_siftDownOrdered_int : Tryz.prog.funcs[F.slices_siftDownOrdered_int]? = some Tryz.f200 := Tryz.func200
abbrev F.slices_nextPowerOfTwo : FuncId := 201
theorem C.slices_nextPowerOfTwo : Tryz.prog.funcs[F.slices_nextPowerOfTwo]? = some Tryz.f201 := Tryz.func201
abbrev F.slices_xorshift_Next : FuncId := 202
theorem C.slices_xorshift_Next : Tryz.prog.funcs[F.slices_xorshift_Next]? = some Tryz.f202 := Tryz.func202
abbrev F.slices_medianAdjacentOrdered_int : FuncId := 203
theorem C.slices_medianAdjacentOrdered_int : Tryz.prog.funcs[F.slices_medianAdjacentOrdered_int]? = some Tryz.f203 := Tryz.func203
abbrev F.slices_medianOrdered_int : FuncId := 204
theorem C.slices_medianOrdered_int : Tryz.prog.funcs[F.slices_medianOrdered_int]? = some Tryz.f204 := Tryz.func204
abbrev F.cmp_isNaN_int : FuncId := 205
theorem C.cmp_isNaN_int : Tryz.prog.funcs[F.cmp_isNaN_int]? = some Tryz.f205 := Tryz.func205
abbrev F.slices_order2Ordered_int : FuncId := 206
theorem C.slices_order2Ordered_int : Tryz.prog.funcs[F.slices_order2Ordered_int]? = some Tryz.f206 := Tryz.func206
abbrev F.internal_abi_Type_Align : FuncId := 219
theorem C.internal_abi_Type_Align : Tryz.prog.funcs[F.internal_abi_Type_Align]? = some Tryz.f219 := Tryz.func219
abbrev F.internal_runtime_maps_unhashableTypeError_Error : FuncId := 220
theorem C.internal_runtime_maps_unhashableTypeError_Error : Tryz.prog.funcs[F.internal_runtime_maps_unhashableTypeError_Error]? = some Tryz.f220 := Tryz.func220
abbrev F.internal_runtime_maps_unhashableTypeError_RuntimeError : FuncId := 221
theorem C.internal_runtime_maps_unhashableTypeError_RuntimeError : Tryz.prog.funcs[F.internal_runtime_maps_unhashableTypeError_RuntimeError]? = some Tryz.f221 := Tryz.func221
abbrev F.strings_Builder_Reset : FuncId := 222
theorem C.strings_Builder_Reset : Tryz.prog.funcs[F.strings_Builder_Reset]? = some Tryz.f222 := Tryz.func222
abbrev F.internal_abi_Kind_String : FuncId := 223
theorem C.internal_abi_Kind_String : Tryz.prog.funcs[F.internal_abi_Kind_String]? = some Tryz.f223 := Tryz.func223
abbrev Y.error : TypeId := 196
abbrev Y.errorI : TypeId := 195
abbrev Y.int64 : TypeId := 2
abbrev Y.int : TypeId := 3
abbrev Y.bool : TypeId := 4
abbrev Y.uint8 : TypeId := 5
abbrev Y.abi_BoundsErrorCode : TypeId := 6
abbrev Y.runtime_boundsError : TypeId := 8
abbrev Y.string : TypeId := 9
abbrev Y.runtime_errorString : TypeId := 10
abbrev Y.runtime_plainError : TypeId := 11
abbrev Y.uintptr : TypeId := 12
abbrev Y.runtime_errorAddressString : TypeId := 14
abbrev Y.int32 : TypeId := 21
abbrev Y.sl_laws_Member : TypeId := 22
abbrev Y.sl_laws_Flight : TypeId := 23
abbrev Y.laws_Fleet : TypeId := 25
abbrev Y.sl_impl_Member : TypeId := 28
abbrev Y.sl_impl_Flight : TypeId := 29
abbrev Y.impl_Fleet : TypeId := 31
abbrev Y.sl_impl_File : TypeId := 40
abbrev Y.impl_Disk : TypeId := 42
abbrev Y.sl_impl_Entry : TypeId := 43
abbrev Y.impl_Hard : TypeId := 45
abbrev Y.sl_int : TypeId := 46
abbrev Y.impl_Raft : TypeId := 48
abbrev Y.sl_impl_Rel : TypeId := 49
abbrev Y.impl_Roll : TypeId := 51
abbrev Y.sl_impl_Held : TypeId := 52
abbrev Y.impl_Member : TypeId := 54
abbrev Y.impl_Flight : TypeId := 57
abbrev Y.impl_Cmd : TypeId := 66
abbrev Y.impl_Entry : TypeId := 68
abbrev Y.impl_Rel : TypeId := 73
abbrev Y.sl_string : TypeId := 77
abbrev Y.impl_Parcel : TypeId := 79
abbrev Y.impl_Held : TypeId := 81
abbrev Y.sl_impl_Cmd : TypeId := 83
abbrev Y.sl_laws_File : TypeId := 89
abbrev Y.laws_Disk : TypeId := 91
abbrev Y.sl_laws_Entry : TypeId := 92
abbrev Y.laws_Hard : TypeId := 94
abbrev Y.laws_Raft : TypeId := 96
abbrev Y.sl_laws_Rel : TypeId := 97
abbrev Y.laws_Roll : TypeId := 99
abbrev Y.sl_laws_Held : TypeId := 100
abbrev Y.laws_Member : TypeId := 102
abbrev Y.laws_Flight : TypeId := 104
abbrev Y.impl_File : TypeId := 130
abbrev Y.sl_uint8 : TypeId := 142
abbrev Y.laws_Parcel : TypeId := 155
abbrev Y.laws_Held : TypeId := 157
abbrev Y.uint : TypeId := 170
abbrev Y.laws_File : TypeId := 179
abbrev Y.laws_Rel : TypeId := 182
abbrev Y.ar8_int : TypeId := 200
abbrev Y.laws_Cmd : TypeId := 206
abbrev Y.laws_Entry : TypeId := 208
abbrev Y.ar64_int : TypeId := 215
abbrev Y.slices_sortedHint : TypeId := 219
abbrev Y.uint32 : TypeId := 228
abbrev Y.uint64 : TypeId := 230
abbrev Y.slices_xorshift : TypeId := 237
abbrev Y.abi_TFlag : TypeId := 252
abbrev Y.abi_Kind : TypeId := 253
abbrev Y.abi_NameOff : TypeId := 255
abbrev Y.abi_TypeOff : TypeId := 256

end Go.TL
