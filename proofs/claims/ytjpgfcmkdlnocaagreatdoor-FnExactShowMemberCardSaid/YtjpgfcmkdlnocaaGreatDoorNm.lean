/- The functions by name, and facts of the type table: printed by a program of this work out of the translation. No conditions. -/
import Derived.Test.YtjpgfcmkdlnocaaGreatDoorProg
import Derived.Test.YtjpgfcmkdlnocaaGreatDoorTGo3
import Derived.KernelRfl
namespace Go.TL
set_option linter.unusedSimpArgs false
open Go.Proofs Go.RowKit

@[go_sem] theorem t2_sz : szT Tryz.prog 2 = some 1 := by kernel_rfl
@[go_sem] theorem t2_by : bytesT Tryz.prog 2 = some 8 := by kernel_rfl
@[go_sem] theorem t2_ag : aggT Tryz.prog 2 = some false := by kernel_rfl
@[go_sem] theorem t2_ze : zeroT Tryz.prog 2 = some [.v (.int .i64 0)] := by kernel_rfl
@[go_sem] theorem t2_un : Tryz.prog.underlying 2 = some (.int .i64) := by kernel_rfl
@[go_sem] theorem t2_ec (m : Nat) (k : IntKind) (a b : Int) : eqC Tryz.prog (m + 1) 2 [.int k a] [.int k b] = some (decide (a = b)) := eqC_int t2_un k a b
@[go_sem] theorem t3_sz : szT Tryz.prog 3 = some 1 := by kernel_rfl
@[go_sem] theorem t3_by : bytesT Tryz.prog 3 = some 8 := by kernel_rfl
@[go_sem] theorem t3_ag : aggT Tryz.prog 3 = some false := by kernel_rfl
@[go_sem] theorem t3_ze : zeroT Tryz.prog 3 = some [.v (.int .i64 0)] := by kernel_rfl
@[go_sem] theorem t3_un : Tryz.prog.underlying 3 = some (.int .i64) := by kernel_rfl
@[go_sem] theorem t3_ec (m : Nat) (k : IntKind) (a b : Int) : eqC Tryz.prog (m + 1) 3 [.int k a] [.int k b] = some (decide (a = b)) := eqC_int t3_un k a b
@[go_sem] theorem t4_sz : szT Tryz.prog 4 = some 1 := by kernel_rfl
@[go_sem] theorem t4_by : bytesT Tryz.prog 4 = some 1 := by kernel_rfl
@[go_sem] theorem t4_ag : aggT Tryz.prog 4 = some false := by kernel_rfl
@[go_sem] theorem t4_ze : zeroT Tryz.prog 4 = some [.v (.bool false)] := by kernel_rfl
@[go_sem] theorem t4_un : Tryz.prog.underlying 4 = some .bool := by kernel_rfl
@[go_sem] theorem t4_ec (m : Nat) (a b : Bool) : eqC Tryz.prog (m + 1) 4 [.bool a] [.bool b] = some (a == b) := eqC_bool t4_un a b
@[go_sem] theorem t4_beq (xo yo : Operand) (p q : Prop) [Decidable p] [Decidable q] : binT Tryz.prog .eql 4 xo yo (.v (.bool (decide p))) (.v (.bool (decide q))) = some (.v (.bool (decide (p ↔ q)))) := b_beq xo yo t4_un p q
@[go_sem] theorem t4_bne (xo yo : Operand) (p q : Prop) [Decidable p] [Decidable q] : binT Tryz.prog .neq 4 xo yo (.v (.bool (decide p))) (.v (.bool (decide q))) = some (.v (.bool (decide (¬ (p ↔ q))))) := b_bne xo yo t4_un p q
@[go_sem] theorem t5_sz : szT Tryz.prog 5 = some 1 := by kernel_rfl
@[go_sem] theorem t5_by : bytesT Tryz.prog 5 = some 1 := by kernel_rfl
@[go_sem] theorem t5_ag : aggT Tryz.prog 5 = some false := by kernel_rfl
@[go_sem] theorem t5_ze : zeroT Tryz.prog 5 = some [.v (.int .u8 0)] := by kernel_rfl
@[go_sem] theorem t5_un : Tryz.prog.underlying 5 = some (.int .u8) := by kernel_rfl
@[go_sem] theorem t5_ec (m : Nat) (k : IntKind) (a b : Int) : eqC Tryz.prog (m + 1) 5 [.int k a] [.int k b] = some (decide (a = b)) := eqC_int t5_un k a b
@[go_sem] theorem t9_sz : szT Tryz.prog 9 = some 1 := by kernel_rfl
@[go_sem] theorem t9_by : bytesT Tryz.prog 9 = some 16 := by kernel_rfl
@[go_sem] theorem t9_ag : aggT Tryz.prog 9 = some false := by kernel_rfl
@[go_sem] theorem t9_ze : zeroT Tryz.prog 9 = some [.v (.string ⟨#[]⟩)] := by kernel_rfl
@[go_sem] theorem t9_un : Tryz.prog.underlying 9 = some .string := by kernel_rfl
@[go_sem] theorem t9_ec (m : Nat) (a b : ByteArray) : eqC Tryz.prog (m + 1) 9 [.string a] [.string b] = some (decide (a = b)) := eqC_str t9_un a b
@[go_sem] theorem t9_ni : notInt Tryz.prog 9 = true := by kernel_rfl
@[go_sem] theorem t12_sz : szT Tryz.prog 12 = some 1 := by kernel_rfl
@[go_sem] theorem t12_by : bytesT Tryz.prog 12 = some 8 := by kernel_rfl
@[go_sem] theorem t12_ag : aggT Tryz.prog 12 = some false := by kernel_rfl
@[go_sem] theorem t12_ze : zeroT Tryz.prog 12 = some [.v (.int .u64 0)] := by kernel_rfl
@[go_sem] theorem t12_un : Tryz.prog.underlying 12 = some (.int .u64) := by kernel_rfl
@[go_sem] theorem t12_ec (m : Nat) (k : IntKind) (a b : Int) : eqC Tryz.prog (m + 1) 12 [.int k a] [.int k b] = some (decide (a = b)) := eqC_int t12_un k a b
@[go_sem] theorem t13_sz : szT Tryz.prog 13 = some 2 := by kernel_rfl
@[go_sem] theorem t13_by : bytesT Tryz.prog 13 = some 24 := by kernel_rfl
@[go_sem] theorem t13_ag : aggT Tryz.prog 13 = some true := by kernel_rfl
@[go_sem] theorem t13_ze : zeroT Tryz.prog 13 = some [.v (.string ⟨#[]⟩), .v (.int .u64 0)] := by kernel_rfl
@[go_sem] theorem t13_f0 : fldT Tryz.prog 13 0 = some (0, 1, 9) := by kernel_rfl
@[go_sem] theorem t13_f1 : fldT Tryz.prog 13 1 = some (1, 1, 12) := by kernel_rfl
@[go_sem] theorem t13_fo : fldsOf Tryz.prog 13 = some [(0, 1), (1, 1)] := by kernel_rfl
@[go_sem] theorem t21_sz : szT Tryz.prog 21 = some 1 := by kernel_rfl
@[go_sem] theorem t21_by : bytesT Tryz.prog 21 = some 4 := by kernel_rfl
@[go_sem] theorem t21_ag : aggT Tryz.prog 21 = some false := by kernel_rfl
@[go_sem] theorem t21_ze : zeroT Tryz.prog 21 = some [.v (.int .i32 0)] := by kernel_rfl
@[go_sem] theorem t21_un : Tryz.prog.underlying 21 = some (.int .i32) := by kernel_rfl
@[go_sem] theorem t21_ec (m : Nat) (k : IntKind) (a b : Int) : eqC Tryz.prog (m + 1) 21 [.int k a] [.int k b] = some (decide (a = b)) := eqC_int t21_un k a b
@[go_sem] theorem t22_sz : szT Tryz.prog 22 = some 1 := by kernel_rfl
@[go_sem] theorem t22_by : bytesT Tryz.prog 22 = some 24 := by kernel_rfl
@[go_sem] theorem t22_ag : aggT Tryz.prog 22 = some false := by kernel_rfl
@[go_sem] theorem t22_ze : zeroT Tryz.prog 22 = some [.v (.slice none 0 0)] := by kernel_rfl
@[go_sem] theorem t22_el : elemT Tryz.prog 22 = some 74 := by kernel_rfl
@[go_sem] theorem t22_un : Tryz.prog.underlying 22 = some (.slice 74) := by kernel_rfl
@[go_sem] theorem t22_ni : notInt Tryz.prog 22 = true := by kernel_rfl
@[go_sem] theorem t23_sz : szT Tryz.prog 23 = some 1 := by kernel_rfl
@[go_sem] theorem t23_by : bytesT Tryz.prog 23 = some 24 := by kernel_rfl
@[go_sem] theorem t23_ag : aggT Tryz.prog 23 = some false := by kernel_rfl
@[go_sem] theorem t23_ze : zeroT Tryz.prog 23 = some [.v (.slice none 0 0)] := by kernel_rfl
@[go_sem] theorem t23_el : elemT Tryz.prog 23 = some 77 := by kernel_rfl
@[go_sem] theorem t23_un : Tryz.prog.underlying 23 = some (.slice 77) := by kernel_rfl
@[go_sem] theorem t23_ni : notInt Tryz.prog 23 = true := by kernel_rfl
@[go_sem] theorem t24_sz : szT Tryz.prog 24 = some 3 := by kernel_rfl
@[go_sem] theorem t24_by : bytesT Tryz.prog 24 = some 56 := by kernel_rfl
@[go_sem] theorem t24_ag : aggT Tryz.prog 24 = some true := by kernel_rfl
@[go_sem] theorem t24_ze : zeroT Tryz.prog 24 = some [.v (.int .i64 0), .v (.slice none 0 0), .v (.slice none 0 0)] := by kernel_rfl
@[go_sem] theorem t24_f0 : fldT Tryz.prog 24 0 = some (0, 1, 3) := by kernel_rfl
@[go_sem] theorem t24_f1 : fldT Tryz.prog 24 1 = some (1, 1, 22) := by kernel_rfl
@[go_sem] theorem t24_f2 : fldT Tryz.prog 24 2 = some (2, 1, 23) := by kernel_rfl
@[go_sem] theorem t24_fo : fldsOf Tryz.prog 24 = some [(0, 1), (1, 1), (2, 1)] := by kernel_rfl
@[go_sem] theorem t25_sz : szT Tryz.prog 25 = some 3 := by kernel_rfl
@[go_sem] theorem t25_by : bytesT Tryz.prog 25 = some 56 := by kernel_rfl
@[go_sem] theorem t25_ag : aggT Tryz.prog 25 = some true := by kernel_rfl
@[go_sem] theorem t25_ze : zeroT Tryz.prog 25 = some [.v (.int .i64 0), .v (.slice none 0 0), .v (.slice none 0 0)] := by kernel_rfl
@[go_sem] theorem t25_f0 : fldT Tryz.prog 25 0 = some (0, 1, 3) := by kernel_rfl
@[go_sem] theorem t25_f1 : fldT Tryz.prog 25 1 = some (1, 1, 22) := by kernel_rfl
@[go_sem] theorem t25_f2 : fldT Tryz.prog 25 2 = some (2, 1, 23) := by kernel_rfl
@[go_sem] theorem t25_fo : fldsOf Tryz.prog 25 = some [(0, 1), (1, 1), (2, 1)] := by kernel_rfl
@[go_sem] theorem t28_sz : szT Tryz.prog 28 = some 1 := by kernel_rfl
@[go_sem] theorem t28_by : bytesT Tryz.prog 28 = some 24 := by kernel_rfl
@[go_sem] theorem t28_ag : aggT Tryz.prog 28 = some false := by kernel_rfl
@[go_sem] theorem t28_ze : zeroT Tryz.prog 28 = some [.v (.slice none 0 0)] := by kernel_rfl
@[go_sem] theorem t28_el : elemT Tryz.prog 28 = some 53 := by kernel_rfl
@[go_sem] theorem t28_un : Tryz.prog.underlying 28 = some (.slice 53) := by kernel_rfl
@[go_sem] theorem t28_ni : notInt Tryz.prog 28 = true := by kernel_rfl
@[go_sem] theorem t29_sz : szT Tryz.prog 29 = some 1 := by kernel_rfl
@[go_sem] theorem t29_by : bytesT Tryz.prog 29 = some 24 := by kernel_rfl
@[go_sem] theorem t29_ag : aggT Tryz.prog 29 = some false := by kernel_rfl
@[go_sem] theorem t29_ze : zeroT Tryz.prog 29 = some [.v (.slice none 0 0)] := by kernel_rfl
@[go_sem] theorem t29_el : elemT Tryz.prog 29 = some 80 := by kernel_rfl
@[go_sem] theorem t29_un : Tryz.prog.underlying 29 = some (.slice 80) := by kernel_rfl
@[go_sem] theorem t29_ni : notInt Tryz.prog 29 = true := by kernel_rfl
@[go_sem] theorem t30_sz : szT Tryz.prog 30 = some 3 := by kernel_rfl
@[go_sem] theorem t30_by : bytesT Tryz.prog 30 = some 56 := by kernel_rfl
@[go_sem] theorem t30_ag : aggT Tryz.prog 30 = some true := by kernel_rfl
@[go_sem] theorem t30_ze : zeroT Tryz.prog 30 = some [.v (.int .i64 0), .v (.slice none 0 0), .v (.slice none 0 0)] := by kernel_rfl
@[go_sem] theorem t30_f0 : fldT Tryz.prog 30 0 = some (0, 1, 3) := by kernel_rfl
@[go_sem] theorem t30_f1 : fldT Tryz.prog 30 1 = some (1, 1, 28) := by kernel_rfl
@[go_sem] theorem t30_f2 : fldT Tryz.prog 30 2 = some (2, 1, 29) := by kernel_rfl
@[go_sem] theorem t30_fo : fldsOf Tryz.prog 30 = some [(0, 1), (1, 1), (2, 1)] := by kernel_rfl
@[go_sem] theorem t31_sz : szT Tryz.prog 31 = some 3 := by kernel_rfl
@[go_sem] theorem t31_by : bytesT Tryz.prog 31 = some 56 := by kernel_rfl
@[go_sem] theorem t31_ag : aggT Tryz.prog 31 = some true := by kernel_rfl
@[go_sem] theorem t31_ze : zeroT Tryz.prog 31 = some [.v (.int .i64 0), .v (.slice none 0 0), .v (.slice none 0 0)] := by kernel_rfl
@[go_sem] theorem t31_f0 : fldT Tryz.prog 31 0 = some (0, 1, 3) := by kernel_rfl
@[go_sem] theorem t31_f1 : fldT Tryz.prog 31 1 = some (1, 1, 28) := by kernel_rfl
@[go_sem] theorem t31_f2 : fldT Tryz.prog 31 2 = some (2, 1, 29) := by kernel_rfl
@[go_sem] theorem t31_fo : fldsOf Tryz.prog 31 = some [(0, 1), (1, 1), (2, 1)] := by kernel_rfl
@[go_sem] theorem t39_sz : szT Tryz.prog 39 = some 1 := by kernel_rfl
@[go_sem] theorem t39_by : bytesT Tryz.prog 39 = some 24 := by kernel_rfl
@[go_sem] theorem t39_ag : aggT Tryz.prog 39 = some false := by kernel_rfl
@[go_sem] theorem t39_ze : zeroT Tryz.prog 39 = some [.v (.slice none 0 0)] := by kernel_rfl
@[go_sem] theorem t39_el : elemT Tryz.prog 39 = some 114 := by kernel_rfl
@[go_sem] theorem t39_un : Tryz.prog.underlying 39 = some (.slice 114) := by kernel_rfl
@[go_sem] theorem t39_ni : notInt Tryz.prog 39 = true := by kernel_rfl
@[go_sem] theorem t40_sz : szT Tryz.prog 40 = some 2 := by kernel_rfl
@[go_sem] theorem t40_by : bytesT Tryz.prog 40 = some 32 := by kernel_rfl
@[go_sem] theorem t40_ag : aggT Tryz.prog 40 = some true := by kernel_rfl
@[go_sem] theorem t40_ze : zeroT Tryz.prog 40 = some [.v (.int .i64 0), .v (.slice none 0 0)] := by kernel_rfl
@[go_sem] theorem t40_f0 : fldT Tryz.prog 40 0 = some (0, 1, 3) := by kernel_rfl
@[go_sem] theorem t40_f1 : fldT Tryz.prog 40 1 = some (1, 1, 39) := by kernel_rfl
@[go_sem] theorem t40_fo : fldsOf Tryz.prog 40 = some [(0, 1), (1, 1)] := by kernel_rfl
@[go_sem] theorem t41_sz : szT Tryz.prog 41 = some 2 := by kernel_rfl
@[go_sem] theorem t41_by : bytesT Tryz.prog 41 = some 32 := by kernel_rfl
@[go_sem] theorem t41_ag : aggT Tryz.prog 41 = some true := by kernel_rfl
@[go_sem] theorem t41_ze : zeroT Tryz.prog 41 = some [.v (.int .i64 0), .v (.slice none 0 0)] := by kernel_rfl
@[go_sem] theorem t41_f0 : fldT Tryz.prog 41 0 = some (0, 1, 3) := by kernel_rfl
@[go_sem] theorem t41_f1 : fldT Tryz.prog 41 1 = some (1, 1, 39) := by kernel_rfl
@[go_sem] theorem t41_fo : fldsOf Tryz.prog 41 = some [(0, 1), (1, 1)] := by kernel_rfl
@[go_sem] theorem t42_sz : szT Tryz.prog 42 = some 1 := by kernel_rfl
@[go_sem] theorem t42_by : bytesT Tryz.prog 42 = some 24 := by kernel_rfl
@[go_sem] theorem t42_ag : aggT Tryz.prog 42 = some false := by kernel_rfl
@[go_sem] theorem t42_ze : zeroT Tryz.prog 42 = some [.v (.slice none 0 0)] := by kernel_rfl
@[go_sem] theorem t42_el : elemT Tryz.prog 42 = some 145 := by kernel_rfl
@[go_sem] theorem t42_un : Tryz.prog.underlying 42 = some (.slice 145) := by kernel_rfl
@[go_sem] theorem t42_ni : notInt Tryz.prog 42 = true := by kernel_rfl
@[go_sem] theorem t43_sz : szT Tryz.prog 43 = some 3 := by kernel_rfl
@[go_sem] theorem t43_by : bytesT Tryz.prog 43 = some 40 := by kernel_rfl
@[go_sem] theorem t43_ag : aggT Tryz.prog 43 = some true := by kernel_rfl
@[go_sem] theorem t43_ze : zeroT Tryz.prog 43 = some [.v (.int .i64 0), .v (.int .i64 0), .v (.slice none 0 0)] := by kernel_rfl
@[go_sem] theorem t43_f0 : fldT Tryz.prog 43 0 = some (0, 1, 3) := by kernel_rfl
@[go_sem] theorem t43_f1 : fldT Tryz.prog 43 1 = some (1, 1, 3) := by kernel_rfl
@[go_sem] theorem t43_f2 : fldT Tryz.prog 43 2 = some (2, 1, 42) := by kernel_rfl
@[go_sem] theorem t43_fo : fldsOf Tryz.prog 43 = some [(0, 1), (1, 1), (2, 1)] := by kernel_rfl
@[go_sem] theorem t44_sz : szT Tryz.prog 44 = some 3 := by kernel_rfl
@[go_sem] theorem t44_by : bytesT Tryz.prog 44 = some 40 := by kernel_rfl
@[go_sem] theorem t44_ag : aggT Tryz.prog 44 = some true := by kernel_rfl
@[go_sem] theorem t44_ze : zeroT Tryz.prog 44 = some [.v (.int .i64 0), .v (.int .i64 0), .v (.slice none 0 0)] := by kernel_rfl
@[go_sem] theorem t44_f0 : fldT Tryz.prog 44 0 = some (0, 1, 3) := by kernel_rfl
@[go_sem] theorem t44_f1 : fldT Tryz.prog 44 1 = some (1, 1, 3) := by kernel_rfl
@[go_sem] theorem t44_f2 : fldT Tryz.prog 44 2 = some (2, 1, 42) := by kernel_rfl
@[go_sem] theorem t44_fo : fldsOf Tryz.prog 44 = some [(0, 1), (1, 1), (2, 1)] := by kernel_rfl
@[go_sem] theorem t45_sz : szT Tryz.prog 45 = some 1 := by kernel_rfl
@[go_sem] theorem t45_by : bytesT Tryz.prog 45 = some 24 := by kernel_rfl
@[go_sem] theorem t45_ag : aggT Tryz.prog 45 = some false := by kernel_rfl
@[go_sem] theorem t45_ze : zeroT Tryz.prog 45 = some [.v (.slice none 0 0)] := by kernel_rfl
@[go_sem] theorem t45_el : elemT Tryz.prog 45 = some 3 := by kernel_rfl
@[go_sem] theorem t45_un : Tryz.prog.underlying 45 = some (.slice 3) := by kernel_rfl
@[go_sem] theorem t45_ni : notInt Tryz.prog 45 = true := by kernel_rfl
@[go_sem] theorem t46_sz : szT Tryz.prog 46 = some 10 := by kernel_rfl
@[go_sem] theorem t46_by : bytesT Tryz.prog 46 = some 144 := by kernel_rfl
@[go_sem] theorem t46_ag : aggT Tryz.prog 46 = some true := by kernel_rfl
@[go_sem] theorem t46_ze : zeroT Tryz.prog 46 = some [.v (.int .i64 0), .v (.int .i64 0), .v (.int .i64 0), .v (.int .i64 0), .v (.int .i64 0), .v (.int .i64 0), .v (.slice none 0 0), .v (.slice none 0 0), .v (.slice none 0 0), .v (.slice none 0 0)] := by kernel_rfl
@[go_sem] theorem t46_f0 : fldT Tryz.prog 46 0 = some (0, 1, 3) := by kernel_rfl
@[go_sem] theorem t46_f1 : fldT Tryz.prog 46 1 = some (1, 1, 3) := by kernel_rfl
@[go_sem] theorem t46_f2 : fldT Tryz.prog 46 2 = some (2, 1, 3) := by kernel_rfl
@[go_sem] theorem t46_f3 : fldT Tryz.prog 46 3 = some (3, 1, 3) := by kernel_rfl
@[go_sem] theorem t46_f4 : fldT Tryz.prog 46 4 = some (4, 3, 44) := by kernel_rfl
@[go_sem] theorem t46_f5 : fldT Tryz.prog 46 5 = some (7, 1, 45) := by kernel_rfl
@[go_sem] theorem t46_f6 : fldT Tryz.prog 46 6 = some (8, 1, 45) := by kernel_rfl
@[go_sem] theorem t46_f7 : fldT Tryz.prog 46 7 = some (9, 1, 45) := by kernel_rfl
@[go_sem] theorem t46_fo : fldsOf Tryz.prog 46 = some [(0, 1), (1, 1), (2, 1), (3, 1), (4, 3), (7, 1), (8, 1), (9, 1)] := by kernel_rfl
@[go_sem] theorem t47_sz : szT Tryz.prog 47 = some 10 := by kernel_rfl
@[go_sem] theorem t47_by : bytesT Tryz.prog 47 = some 144 := by kernel_rfl
@[go_sem] theorem t47_ag : aggT Tryz.prog 47 = some true := by kernel_rfl
@[go_sem] theorem t47_ze : zeroT Tryz.prog 47 = some [.v (.int .i64 0), .v (.int .i64 0), .v (.int .i64 0), .v (.int .i64 0), .v (.int .i64 0), .v (.int .i64 0), .v (.slice none 0 0), .v (.slice none 0 0), .v (.slice none 0 0), .v (.slice none 0 0)] := by kernel_rfl
@[go_sem] theorem t47_f0 : fldT Tryz.prog 47 0 = some (0, 1, 3) := by kernel_rfl
@[go_sem] theorem t47_f1 : fldT Tryz.prog 47 1 = some (1, 1, 3) := by kernel_rfl
@[go_sem] theorem t47_f2 : fldT Tryz.prog 47 2 = some (2, 1, 3) := by kernel_rfl
@[go_sem] theorem t47_f3 : fldT Tryz.prog 47 3 = some (3, 1, 3) := by kernel_rfl
@[go_sem] theorem t47_f4 : fldT Tryz.prog 47 4 = some (4, 3, 44) := by kernel_rfl
@[go_sem] theorem t47_f5 : fldT Tryz.prog 47 5 = some (7, 1, 45) := by kernel_rfl
@[go_sem] theorem t47_f6 : fldT Tryz.prog 47 6 = some (8, 1, 45) := by kernel_rfl
@[go_sem] theorem t47_f7 : fldT Tryz.prog 47 7 = some (9, 1, 45) := by kernel_rfl
@[go_sem] theorem t47_fo : fldsOf Tryz.prog 47 = some [(0, 1), (1, 1), (2, 1), (3, 1), (4, 3), (7, 1), (8, 1), (9, 1)] := by kernel_rfl
@[go_sem] theorem t48_sz : szT Tryz.prog 48 = some 1 := by kernel_rfl
@[go_sem] theorem t48_by : bytesT Tryz.prog 48 = some 24 := by kernel_rfl
@[go_sem] theorem t48_ag : aggT Tryz.prog 48 = some false := by kernel_rfl
@[go_sem] theorem t48_ze : zeroT Tryz.prog 48 = some [.v (.slice none 0 0)] := by kernel_rfl
@[go_sem] theorem t48_el : elemT Tryz.prog 48 = some 119 := by kernel_rfl
@[go_sem] theorem t48_un : Tryz.prog.underlying 48 = some (.slice 119) := by kernel_rfl
@[go_sem] theorem t48_ni : notInt Tryz.prog 48 = true := by kernel_rfl
@[go_sem] theorem t49_sz : szT Tryz.prog 49 = some 4 := by kernel_rfl
@[go_sem] theorem t49_by : bytesT Tryz.prog 49 = some 64 := by kernel_rfl
@[go_sem] theorem t49_ag : aggT Tryz.prog 49 = some true := by kernel_rfl
@[go_sem] theorem t49_ze : zeroT Tryz.prog 49 = some [.v (.int .i64 0), .v (.slice none 0 0), .v (.int .i64 0), .v (.slice none 0 0)] := by kernel_rfl
@[go_sem] theorem t49_f0 : fldT Tryz.prog 49 0 = some (0, 1, 3) := by kernel_rfl
@[go_sem] theorem t49_f1 : fldT Tryz.prog 49 1 = some (1, 1, 48) := by kernel_rfl
@[go_sem] theorem t49_f2 : fldT Tryz.prog 49 2 = some (2, 1, 3) := by kernel_rfl
@[go_sem] theorem t49_f3 : fldT Tryz.prog 49 3 = some (3, 1, 45) := by kernel_rfl
@[go_sem] theorem t49_fo : fldsOf Tryz.prog 49 = some [(0, 1), (1, 1), (2, 1), (3, 1)] := by kernel_rfl
@[go_sem] theorem t50_sz : szT Tryz.prog 50 = some 4 := by kernel_rfl
@[go_sem] theorem t50_by : bytesT Tryz.prog 50 = some 64 := by kernel_rfl
@[go_sem] theorem t50_ag : aggT Tryz.prog 50 = some true := by kernel_rfl
@[go_sem] theorem t50_ze : zeroT Tryz.prog 50 = some [.v (.int .i64 0), .v (.slice none 0 0), .v (.int .i64 0), .v (.slice none 0 0)] := by kernel_rfl
@[go_sem] theorem t50_f0 : fldT Tryz.prog 50 0 = some (0, 1, 3) := by kernel_rfl
@[go_sem] theorem t50_f1 : fldT Tryz.prog 50 1 = some (1, 1, 48) := by kernel_rfl
@[go_sem] theorem t50_f2 : fldT Tryz.prog 50 2 = some (2, 1, 3) := by kernel_rfl
@[go_sem] theorem t50_f3 : fldT Tryz.prog 50 3 = some (3, 1, 45) := by kernel_rfl
@[go_sem] theorem t50_fo : fldsOf Tryz.prog 50 = some [(0, 1), (1, 1), (2, 1), (3, 1)] := by kernel_rfl
@[go_sem] theorem t51_sz : szT Tryz.prog 51 = some 1 := by kernel_rfl
@[go_sem] theorem t51_by : bytesT Tryz.prog 51 = some 24 := by kernel_rfl
@[go_sem] theorem t51_ag : aggT Tryz.prog 51 = some false := by kernel_rfl
@[go_sem] theorem t51_ze : zeroT Tryz.prog 51 = some [.v (.slice none 0 0)] := by kernel_rfl
@[go_sem] theorem t51_el : elemT Tryz.prog 51 = some 122 := by kernel_rfl
@[go_sem] theorem t51_un : Tryz.prog.underlying 51 = some (.slice 122) := by kernel_rfl
@[go_sem] theorem t51_ni : notInt Tryz.prog 51 = true := by kernel_rfl
@[go_sem] theorem t52_sz : szT Tryz.prog 52 = some 19 := by kernel_rfl
@[go_sem] theorem t52_by : bytesT Tryz.prog 52 = some 280 := by kernel_rfl
@[go_sem] theorem t52_ag : aggT Tryz.prog 52 = some true := by kernel_rfl
@[go_sem] theorem t52_ze : zeroT Tryz.prog 52 = some [.v (.bool false), .v (.int .i64 0), .v (.slice none 0 0), .v (.int .i64 0), .v (.int .i64 0), .v (.int .i64 0), .v (.int .i64 0), .v (.int .i64 0), .v (.int .i64 0), .v (.slice none 0 0), .v (.slice none 0 0), .v (.slice none 0 0), .v (.slice none 0 0), .v (.int .i64 0), .v (.int .i64 0), .v (.slice none 0 0), .v (.int .i64 0), .v (.slice none 0 0), .v (.slice none 0 0)] := by kernel_rfl
@[go_sem] theorem t52_f0 : fldT Tryz.prog 52 0 = some (0, 1, 4) := by kernel_rfl
@[go_sem] theorem t52_f1 : fldT Tryz.prog 52 1 = some (1, 2, 41) := by kernel_rfl
@[go_sem] theorem t52_f2 : fldT Tryz.prog 52 2 = some (3, 10, 47) := by kernel_rfl
@[go_sem] theorem t52_f3 : fldT Tryz.prog 52 3 = some (13, 1, 3) := by kernel_rfl
@[go_sem] theorem t52_f4 : fldT Tryz.prog 52 4 = some (14, 4, 50) := by kernel_rfl
@[go_sem] theorem t52_f5 : fldT Tryz.prog 52 5 = some (18, 1, 51) := by kernel_rfl
@[go_sem] theorem t52_fo : fldsOf Tryz.prog 52 = some [(0, 1), (1, 2), (3, 10), (13, 1), (14, 4), (18, 1)] := by kernel_rfl
@[go_sem] theorem t53_sz : szT Tryz.prog 53 = some 19 := by kernel_rfl
@[go_sem] theorem t53_by : bytesT Tryz.prog 53 = some 280 := by kernel_rfl
@[go_sem] theorem t53_ag : aggT Tryz.prog 53 = some true := by kernel_rfl
@[go_sem] theorem t53_ze : zeroT Tryz.prog 53 = some [.v (.bool false), .v (.int .i64 0), .v (.slice none 0 0), .v (.int .i64 0), .v (.int .i64 0), .v (.int .i64 0), .v (.int .i64 0), .v (.int .i64 0), .v (.int .i64 0), .v (.slice none 0 0), .v (.slice none 0 0), .v (.slice none 0 0), .v (.slice none 0 0), .v (.int .i64 0), .v (.int .i64 0), .v (.slice none 0 0), .v (.int .i64 0), .v (.slice none 0 0), .v (.slice none 0 0)] := by kernel_rfl
@[go_sem] theorem t53_f0 : fldT Tryz.prog 53 0 = some (0, 1, 4) := by kernel_rfl
@[go_sem] theorem t53_f1 : fldT Tryz.prog 53 1 = some (1, 2, 41) := by kernel_rfl
@[go_sem] theorem t53_f2 : fldT Tryz.prog 53 2 = some (3, 10, 47) := by kernel_rfl
@[go_sem] theorem t53_f3 : fldT Tryz.prog 53 3 = some (13, 1, 3) := by kernel_rfl
@[go_sem] theorem t53_f4 : fldT Tryz.prog 53 4 = some (14, 4, 50) := by kernel_rfl
@[go_sem] theorem t53_f5 : fldT Tryz.prog 53 5 = some (18, 1, 51) := by kernel_rfl
@[go_sem] theorem t53_fo : fldsOf Tryz.prog 53 = some [(0, 1), (1, 2), (3, 10), (13, 1), (14, 4), (18, 1)] := by kernel_rfl
@[go_sem] theorem t54_sz : szT Tryz.prog 54 = some 1 := by kernel_rfl
@[go_sem] theorem t54_by : bytesT Tryz.prog 54 = some 24 := by kernel_rfl
@[go_sem] theorem t54_ag : aggT Tryz.prog 54 = some false := by kernel_rfl
@[go_sem] theorem t54_ze : zeroT Tryz.prog 54 = some [.v (.slice none 0 0)] := by kernel_rfl
@[go_sem] theorem t54_el : elemT Tryz.prog 54 = some 9 := by kernel_rfl
@[go_sem] theorem t54_un : Tryz.prog.underlying 54 = some (.slice 9) := by kernel_rfl
@[go_sem] theorem t54_ni : notInt Tryz.prog 54 = true := by kernel_rfl
@[go_sem] theorem t61_sz : szT Tryz.prog 61 = some 1 := by kernel_rfl
@[go_sem] theorem t61_by : bytesT Tryz.prog 61 = some 24 := by kernel_rfl
@[go_sem] theorem t61_ag : aggT Tryz.prog 61 = some false := by kernel_rfl
@[go_sem] theorem t61_ze : zeroT Tryz.prog 61 = some [.v (.slice none 0 0)] := by kernel_rfl
@[go_sem] theorem t61_el : elemT Tryz.prog 61 = some 136 := by kernel_rfl
@[go_sem] theorem t61_un : Tryz.prog.underlying 61 = some (.slice 136) := by kernel_rfl
@[go_sem] theorem t61_ni : notInt Tryz.prog 61 = true := by kernel_rfl
@[go_sem] theorem t62_sz : szT Tryz.prog 62 = some 2 := by kernel_rfl
@[go_sem] theorem t62_by : bytesT Tryz.prog 62 = some 32 := by kernel_rfl
@[go_sem] theorem t62_ag : aggT Tryz.prog 62 = some true := by kernel_rfl
@[go_sem] theorem t62_ze : zeroT Tryz.prog 62 = some [.v (.int .i64 0), .v (.slice none 0 0)] := by kernel_rfl
@[go_sem] theorem t62_f0 : fldT Tryz.prog 62 0 = some (0, 1, 3) := by kernel_rfl
@[go_sem] theorem t62_f1 : fldT Tryz.prog 62 1 = some (1, 1, 61) := by kernel_rfl
@[go_sem] theorem t62_fo : fldsOf Tryz.prog 62 = some [(0, 1), (1, 1)] := by kernel_rfl
@[go_sem] theorem t63_sz : szT Tryz.prog 63 = some 2 := by kernel_rfl
@[go_sem] theorem t63_by : bytesT Tryz.prog 63 = some 32 := by kernel_rfl
@[go_sem] theorem t63_ag : aggT Tryz.prog 63 = some true := by kernel_rfl
@[go_sem] theorem t63_ze : zeroT Tryz.prog 63 = some [.v (.int .i64 0), .v (.slice none 0 0)] := by kernel_rfl
@[go_sem] theorem t63_f0 : fldT Tryz.prog 63 0 = some (0, 1, 3) := by kernel_rfl
@[go_sem] theorem t63_f1 : fldT Tryz.prog 63 1 = some (1, 1, 61) := by kernel_rfl
@[go_sem] theorem t63_fo : fldsOf Tryz.prog 63 = some [(0, 1), (1, 1)] := by kernel_rfl
@[go_sem] theorem t64_sz : szT Tryz.prog 64 = some 1 := by kernel_rfl
@[go_sem] theorem t64_by : bytesT Tryz.prog 64 = some 24 := by kernel_rfl
@[go_sem] theorem t64_ag : aggT Tryz.prog 64 = some false := by kernel_rfl
@[go_sem] theorem t64_ze : zeroT Tryz.prog 64 = some [.v (.slice none 0 0)] := by kernel_rfl
@[go_sem] theorem t64_el : elemT Tryz.prog 64 = some 162 := by kernel_rfl
@[go_sem] theorem t64_un : Tryz.prog.underlying 64 = some (.slice 162) := by kernel_rfl
@[go_sem] theorem t64_ni : notInt Tryz.prog 64 = true := by kernel_rfl
@[go_sem] theorem t65_sz : szT Tryz.prog 65 = some 3 := by kernel_rfl
@[go_sem] theorem t65_by : bytesT Tryz.prog 65 = some 40 := by kernel_rfl
@[go_sem] theorem t65_ag : aggT Tryz.prog 65 = some true := by kernel_rfl
@[go_sem] theorem t65_ze : zeroT Tryz.prog 65 = some [.v (.int .i64 0), .v (.int .i64 0), .v (.slice none 0 0)] := by kernel_rfl
@[go_sem] theorem t65_f0 : fldT Tryz.prog 65 0 = some (0, 1, 3) := by kernel_rfl
@[go_sem] theorem t65_f1 : fldT Tryz.prog 65 1 = some (1, 1, 3) := by kernel_rfl
@[go_sem] theorem t65_f2 : fldT Tryz.prog 65 2 = some (2, 1, 64) := by kernel_rfl
@[go_sem] theorem t65_fo : fldsOf Tryz.prog 65 = some [(0, 1), (1, 1), (2, 1)] := by kernel_rfl
@[go_sem] theorem t66_sz : szT Tryz.prog 66 = some 3 := by kernel_rfl
@[go_sem] theorem t66_by : bytesT Tryz.prog 66 = some 40 := by kernel_rfl
@[go_sem] theorem t66_ag : aggT Tryz.prog 66 = some true := by kernel_rfl
@[go_sem] theorem t66_ze : zeroT Tryz.prog 66 = some [.v (.int .i64 0), .v (.int .i64 0), .v (.slice none 0 0)] := by kernel_rfl
@[go_sem] theorem t66_f0 : fldT Tryz.prog 66 0 = some (0, 1, 3) := by kernel_rfl
@[go_sem] theorem t66_f1 : fldT Tryz.prog 66 1 = some (1, 1, 3) := by kernel_rfl
@[go_sem] theorem t66_f2 : fldT Tryz.prog 66 2 = some (2, 1, 64) := by kernel_rfl
@[go_sem] theorem t66_fo : fldsOf Tryz.prog 66 = some [(0, 1), (1, 1), (2, 1)] := by kernel_rfl
@[go_sem] theorem t67_sz : szT Tryz.prog 67 = some 10 := by kernel_rfl
@[go_sem] theorem t67_by : bytesT Tryz.prog 67 = some 144 := by kernel_rfl
@[go_sem] theorem t67_ag : aggT Tryz.prog 67 = some true := by kernel_rfl
@[go_sem] theorem t67_ze : zeroT Tryz.prog 67 = some [.v (.int .i64 0), .v (.int .i64 0), .v (.int .i64 0), .v (.int .i64 0), .v (.int .i64 0), .v (.int .i64 0), .v (.slice none 0 0), .v (.slice none 0 0), .v (.slice none 0 0), .v (.slice none 0 0)] := by kernel_rfl
@[go_sem] theorem t67_f0 : fldT Tryz.prog 67 0 = some (0, 1, 3) := by kernel_rfl
@[go_sem] theorem t67_f1 : fldT Tryz.prog 67 1 = some (1, 1, 3) := by kernel_rfl
@[go_sem] theorem t67_f2 : fldT Tryz.prog 67 2 = some (2, 1, 3) := by kernel_rfl
@[go_sem] theorem t67_f3 : fldT Tryz.prog 67 3 = some (3, 1, 3) := by kernel_rfl
@[go_sem] theorem t67_f4 : fldT Tryz.prog 67 4 = some (4, 3, 66) := by kernel_rfl
@[go_sem] theorem t67_f5 : fldT Tryz.prog 67 5 = some (7, 1, 45) := by kernel_rfl
@[go_sem] theorem t67_f6 : fldT Tryz.prog 67 6 = some (8, 1, 45) := by kernel_rfl
@[go_sem] theorem t67_f7 : fldT Tryz.prog 67 7 = some (9, 1, 45) := by kernel_rfl
@[go_sem] theorem t67_fo : fldsOf Tryz.prog 67 = some [(0, 1), (1, 1), (2, 1), (3, 1), (4, 3), (7, 1), (8, 1), (9, 1)] := by kernel_rfl
@[go_sem] theorem t68_sz : szT Tryz.prog 68 = some 10 := by kernel_rfl
@[go_sem] theorem t68_by : bytesT Tryz.prog 68 = some 144 := by kernel_rfl
@[go_sem] theorem t68_ag : aggT Tryz.prog 68 = some true := by kernel_rfl
@[go_sem] theorem t68_ze : zeroT Tryz.prog 68 = some [.v (.int .i64 0), .v (.int .i64 0), .v (.int .i64 0), .v (.int .i64 0), .v (.int .i64 0), .v (.int .i64 0), .v (.slice none 0 0), .v (.slice none 0 0), .v (.slice none 0 0), .v (.slice none 0 0)] := by kernel_rfl
@[go_sem] theorem t68_f0 : fldT Tryz.prog 68 0 = some (0, 1, 3) := by kernel_rfl
@[go_sem] theorem t68_f1 : fldT Tryz.prog 68 1 = some (1, 1, 3) := by kernel_rfl
@[go_sem] theorem t68_f2 : fldT Tryz.prog 68 2 = some (2, 1, 3) := by kernel_rfl
@[go_sem] theorem t68_f3 : fldT Tryz.prog 68 3 = some (3, 1, 3) := by kernel_rfl
@[go_sem] theorem t68_f4 : fldT Tryz.prog 68 4 = some (4, 3, 66) := by kernel_rfl
@[go_sem] theorem t68_f5 : fldT Tryz.prog 68 5 = some (7, 1, 45) := by kernel_rfl
@[go_sem] theorem t68_f6 : fldT Tryz.prog 68 6 = some (8, 1, 45) := by kernel_rfl
@[go_sem] theorem t68_f7 : fldT Tryz.prog 68 7 = some (9, 1, 45) := by kernel_rfl
@[go_sem] theorem t68_fo : fldsOf Tryz.prog 68 = some [(0, 1), (1, 1), (2, 1), (3, 1), (4, 3), (7, 1), (8, 1), (9, 1)] := by kernel_rfl
@[go_sem] theorem t69_sz : szT Tryz.prog 69 = some 1 := by kernel_rfl
@[go_sem] theorem t69_by : bytesT Tryz.prog 69 = some 24 := by kernel_rfl
@[go_sem] theorem t69_ag : aggT Tryz.prog 69 = some false := by kernel_rfl
@[go_sem] theorem t69_ze : zeroT Tryz.prog 69 = some [.v (.slice none 0 0)] := by kernel_rfl
@[go_sem] theorem t69_el : elemT Tryz.prog 69 = some 139 := by kernel_rfl
@[go_sem] theorem t69_un : Tryz.prog.underlying 69 = some (.slice 139) := by kernel_rfl
@[go_sem] theorem t69_ni : notInt Tryz.prog 69 = true := by kernel_rfl
@[go_sem] theorem t70_sz : szT Tryz.prog 70 = some 4 := by kernel_rfl
@[go_sem] theorem t70_by : bytesT Tryz.prog 70 = some 64 := by kernel_rfl
@[go_sem] theorem t70_ag : aggT Tryz.prog 70 = some true := by kernel_rfl
@[go_sem] theorem t70_ze : zeroT Tryz.prog 70 = some [.v (.int .i64 0), .v (.slice none 0 0), .v (.int .i64 0), .v (.slice none 0 0)] := by kernel_rfl
@[go_sem] theorem t70_f0 : fldT Tryz.prog 70 0 = some (0, 1, 3) := by kernel_rfl
@[go_sem] theorem t70_f1 : fldT Tryz.prog 70 1 = some (1, 1, 69) := by kernel_rfl
@[go_sem] theorem t70_f2 : fldT Tryz.prog 70 2 = some (2, 1, 3) := by kernel_rfl
@[go_sem] theorem t70_f3 : fldT Tryz.prog 70 3 = some (3, 1, 45) := by kernel_rfl
@[go_sem] theorem t70_fo : fldsOf Tryz.prog 70 = some [(0, 1), (1, 1), (2, 1), (3, 1)] := by kernel_rfl
@[go_sem] theorem t71_sz : szT Tryz.prog 71 = some 4 := by kernel_rfl
@[go_sem] theorem t71_by : bytesT Tryz.prog 71 = some 64 := by kernel_rfl
@[go_sem] theorem t71_ag : aggT Tryz.prog 71 = some true := by kernel_rfl
@[go_sem] theorem t71_ze : zeroT Tryz.prog 71 = some [.v (.int .i64 0), .v (.slice none 0 0), .v (.int .i64 0), .v (.slice none 0 0)] := by kernel_rfl
@[go_sem] theorem t71_f0 : fldT Tryz.prog 71 0 = some (0, 1, 3) := by kernel_rfl
@[go_sem] theorem t71_f1 : fldT Tryz.prog 71 1 = some (1, 1, 69) := by kernel_rfl
@[go_sem] theorem t71_f2 : fldT Tryz.prog 71 2 = some (2, 1, 3) := by kernel_rfl
@[go_sem] theorem t71_f3 : fldT Tryz.prog 71 3 = some (3, 1, 45) := by kernel_rfl
@[go_sem] theorem t71_fo : fldsOf Tryz.prog 71 = some [(0, 1), (1, 1), (2, 1), (3, 1)] := by kernel_rfl
@[go_sem] theorem t72_sz : szT Tryz.prog 72 = some 1 := by kernel_rfl
@[go_sem] theorem t72_by : bytesT Tryz.prog 72 = some 24 := by kernel_rfl
@[go_sem] theorem t72_ag : aggT Tryz.prog 72 = some false := by kernel_rfl
@[go_sem] theorem t72_ze : zeroT Tryz.prog 72 = some [.v (.slice none 0 0)] := by kernel_rfl
@[go_sem] theorem t72_el : elemT Tryz.prog 72 = some 111 := by kernel_rfl
@[go_sem] theorem t72_un : Tryz.prog.underlying 72 = some (.slice 111) := by kernel_rfl
@[go_sem] theorem t72_ni : notInt Tryz.prog 72 = true := by kernel_rfl
@[go_sem] theorem t73_sz : szT Tryz.prog 73 = some 19 := by kernel_rfl
@[go_sem] theorem t73_by : bytesT Tryz.prog 73 = some 280 := by kernel_rfl
@[go_sem] theorem t73_ag : aggT Tryz.prog 73 = some true := by kernel_rfl
@[go_sem] theorem t73_ze : zeroT Tryz.prog 73 = some [.v (.bool false), .v (.int .i64 0), .v (.slice none 0 0), .v (.int .i64 0), .v (.int .i64 0), .v (.int .i64 0), .v (.int .i64 0), .v (.int .i64 0), .v (.int .i64 0), .v (.slice none 0 0), .v (.slice none 0 0), .v (.slice none 0 0), .v (.slice none 0 0), .v (.int .i64 0), .v (.int .i64 0), .v (.slice none 0 0), .v (.int .i64 0), .v (.slice none 0 0), .v (.slice none 0 0)] := by kernel_rfl
@[go_sem] theorem t73_f0 : fldT Tryz.prog 73 0 = some (0, 1, 4) := by kernel_rfl
@[go_sem] theorem t73_f1 : fldT Tryz.prog 73 1 = some (1, 2, 63) := by kernel_rfl
@[go_sem] theorem t73_f2 : fldT Tryz.prog 73 2 = some (3, 10, 68) := by kernel_rfl
@[go_sem] theorem t73_f3 : fldT Tryz.prog 73 3 = some (13, 1, 3) := by kernel_rfl
@[go_sem] theorem t73_f4 : fldT Tryz.prog 73 4 = some (14, 4, 71) := by kernel_rfl
@[go_sem] theorem t73_f5 : fldT Tryz.prog 73 5 = some (18, 1, 72) := by kernel_rfl
@[go_sem] theorem t73_fo : fldsOf Tryz.prog 73 = some [(0, 1), (1, 2), (3, 10), (13, 1), (14, 4), (18, 1)] := by kernel_rfl
@[go_sem] theorem t74_sz : szT Tryz.prog 74 = some 19 := by kernel_rfl
@[go_sem] theorem t74_by : bytesT Tryz.prog 74 = some 280 := by kernel_rfl
@[go_sem] theorem t74_ag : aggT Tryz.prog 74 = some true := by kernel_rfl
@[go_sem] theorem t74_ze : zeroT Tryz.prog 74 = some [.v (.bool false), .v (.int .i64 0), .v (.slice none 0 0), .v (.int .i64 0), .v (.int .i64 0), .v (.int .i64 0), .v (.int .i64 0), .v (.int .i64 0), .v (.int .i64 0), .v (.slice none 0 0), .v (.slice none 0 0), .v (.slice none 0 0), .v (.slice none 0 0), .v (.int .i64 0), .v (.int .i64 0), .v (.slice none 0 0), .v (.int .i64 0), .v (.slice none 0 0), .v (.slice none 0 0)] := by kernel_rfl
@[go_sem] theorem t74_f0 : fldT Tryz.prog 74 0 = some (0, 1, 4) := by kernel_rfl
@[go_sem] theorem t74_f1 : fldT Tryz.prog 74 1 = some (1, 2, 63) := by kernel_rfl
@[go_sem] theorem t74_f2 : fldT Tryz.prog 74 2 = some (3, 10, 68) := by kernel_rfl
@[go_sem] theorem t74_f3 : fldT Tryz.prog 74 3 = some (13, 1, 3) := by kernel_rfl
@[go_sem] theorem t74_f4 : fldT Tryz.prog 74 4 = some (14, 4, 71) := by kernel_rfl
@[go_sem] theorem t74_f5 : fldT Tryz.prog 74 5 = some (18, 1, 72) := by kernel_rfl
@[go_sem] theorem t74_fo : fldsOf Tryz.prog 74 = some [(0, 1), (1, 2), (3, 10), (13, 1), (14, 4), (18, 1)] := by kernel_rfl
@[go_sem] theorem t76_sz : szT Tryz.prog 76 = some 2 := by kernel_rfl
@[go_sem] theorem t76_by : bytesT Tryz.prog 76 = some 24 := by kernel_rfl
@[go_sem] theorem t76_ag : aggT Tryz.prog 76 = some true := by kernel_rfl
@[go_sem] theorem t76_ze : zeroT Tryz.prog 76 = some [.v (.int .i64 0), .v (.string ⟨#[]⟩)] := by kernel_rfl
@[go_sem] theorem t76_f0 : fldT Tryz.prog 76 0 = some (0, 1, 3) := by kernel_rfl
@[go_sem] theorem t76_f1 : fldT Tryz.prog 76 1 = some (1, 1, 9) := by kernel_rfl
@[go_sem] theorem t76_fo : fldsOf Tryz.prog 76 = some [(0, 1), (1, 1)] := by kernel_rfl
@[go_sem] theorem t77_sz : szT Tryz.prog 77 = some 2 := by kernel_rfl
@[go_sem] theorem t77_by : bytesT Tryz.prog 77 = some 24 := by kernel_rfl
@[go_sem] theorem t77_ag : aggT Tryz.prog 77 = some true := by kernel_rfl
@[go_sem] theorem t77_ze : zeroT Tryz.prog 77 = some [.v (.int .i64 0), .v (.string ⟨#[]⟩)] := by kernel_rfl
@[go_sem] theorem t77_f0 : fldT Tryz.prog 77 0 = some (0, 1, 3) := by kernel_rfl
@[go_sem] theorem t77_f1 : fldT Tryz.prog 77 1 = some (1, 1, 9) := by kernel_rfl
@[go_sem] theorem t77_fo : fldsOf Tryz.prog 77 = some [(0, 1), (1, 1)] := by kernel_rfl
@[go_sem] theorem t77_eg : Tryz.prog.eqGuardType Tryz.prog.depth 77 = false := by kernel_rfl
@[go_sem] theorem t77_fl : eqFlds Tryz.prog 77 = some [(3, 0), (9, 1)] := by kernel_rfl
@[go_sem] theorem t77_eq (neg : Bool) (xs ys : List T) : eqAggT Tryz.prog neg 77 (.agg xs) (.agg ys) = (match toVs xs, toVs ys with | some us, some ws => (eqL Tryz.prog 19 [(3, 0), (9, 1)] us ws).map fun b => .v (.bool (if neg = true then !b else b)) | _, _ => none) := eqAgg_t t77_eg t77_ag t77_fl neg xs ys
@[go_sem] theorem t80_sz : szT Tryz.prog 80 = some 2 := by kernel_rfl
@[go_sem] theorem t80_by : bytesT Tryz.prog 80 = some 24 := by kernel_rfl
@[go_sem] theorem t80_ag : aggT Tryz.prog 80 = some true := by kernel_rfl
@[go_sem] theorem t80_ze : zeroT Tryz.prog 80 = some [.v (.int .i64 0), .v (.string ⟨#[]⟩)] := by kernel_rfl
@[go_sem] theorem t80_f0 : fldT Tryz.prog 80 0 = some (0, 1, 3) := by kernel_rfl
@[go_sem] theorem t80_f1 : fldT Tryz.prog 80 1 = some (1, 1, 9) := by kernel_rfl
@[go_sem] theorem t80_fo : fldsOf Tryz.prog 80 = some [(0, 1), (1, 1)] := by kernel_rfl
@[go_sem] theorem t80_eg : Tryz.prog.eqGuardType Tryz.prog.depth 80 = false := by kernel_rfl
@[go_sem] theorem t80_fl : eqFlds Tryz.prog 80 = some [(3, 0), (9, 1)] := by kernel_rfl
@[go_sem] theorem t80_eq (neg : Bool) (xs ys : List T) : eqAggT Tryz.prog neg 80 (.agg xs) (.agg ys) = (match toVs xs, toVs ys with | some us, some ws => (eqL Tryz.prog 19 [(3, 0), (9, 1)] us ws).map fun b => .v (.bool (if neg = true then !b else b)) | _, _ => none) := eqAgg_t t80_eg t80_ag t80_fl neg xs ys
@[go_sem] theorem t81_sz : szT Tryz.prog 81 = some 1 := by kernel_rfl
@[go_sem] theorem t81_by : bytesT Tryz.prog 81 = some 24 := by kernel_rfl
@[go_sem] theorem t81_ag : aggT Tryz.prog 81 = some false := by kernel_rfl
@[go_sem] theorem t81_ze : zeroT Tryz.prog 81 = some [.v (.slice none 0 0)] := by kernel_rfl
@[go_sem] theorem t81_el : elemT Tryz.prog 81 = some 5 := by kernel_rfl
@[go_sem] theorem t81_un : Tryz.prog.underlying 81 = some (.slice 5) := by kernel_rfl
@[go_sem] theorem t81_ni : notInt Tryz.prog 81 = true := by kernel_rfl
@[go_sem] theorem t81_bs : byteSlice Tryz.prog 81 = true := by kernel_rfl
@[go_sem] theorem t108_sz : szT Tryz.prog 108 = some 3 := by kernel_rfl
@[go_sem] theorem t108_by : bytesT Tryz.prog 108 = some 48 := by kernel_rfl
@[go_sem] theorem t108_ag : aggT Tryz.prog 108 = some true := by kernel_rfl
@[go_sem] theorem t108_ze : zeroT Tryz.prog 108 = some [.v (.int .i64 0), .v (.string ⟨#[]⟩), .v (.slice none 0 0)] := by kernel_rfl
@[go_sem] theorem t108_f0 : fldT Tryz.prog 108 0 = some (0, 1, 3) := by kernel_rfl
@[go_sem] theorem t108_f1 : fldT Tryz.prog 108 1 = some (1, 1, 9) := by kernel_rfl
@[go_sem] theorem t108_f2 : fldT Tryz.prog 108 2 = some (2, 1, 54) := by kernel_rfl
@[go_sem] theorem t108_fo : fldsOf Tryz.prog 108 = some [(0, 1), (1, 1), (2, 1)] := by kernel_rfl
@[go_sem] theorem t109_sz : szT Tryz.prog 109 = some 3 := by kernel_rfl
@[go_sem] theorem t109_by : bytesT Tryz.prog 109 = some 48 := by kernel_rfl
@[go_sem] theorem t109_ag : aggT Tryz.prog 109 = some true := by kernel_rfl
@[go_sem] theorem t109_ze : zeroT Tryz.prog 109 = some [.v (.int .i64 0), .v (.string ⟨#[]⟩), .v (.slice none 0 0)] := by kernel_rfl
@[go_sem] theorem t109_f0 : fldT Tryz.prog 109 0 = some (0, 1, 3) := by kernel_rfl
@[go_sem] theorem t109_f1 : fldT Tryz.prog 109 1 = some (1, 1, 9) := by kernel_rfl
@[go_sem] theorem t109_f2 : fldT Tryz.prog 109 2 = some (2, 1, 54) := by kernel_rfl
@[go_sem] theorem t109_fo : fldsOf Tryz.prog 109 = some [(0, 1), (1, 1), (2, 1)] := by kernel_rfl
@[go_sem] theorem t110_sz : szT Tryz.prog 110 = some 4 := by kernel_rfl
@[go_sem] theorem t110_by : bytesT Tryz.prog 110 = some 56 := by kernel_rfl
@[go_sem] theorem t110_ag : aggT Tryz.prog 110 = some true := by kernel_rfl
@[go_sem] theorem t110_ze : zeroT Tryz.prog 110 = some [.v (.int .i64 0), .v (.int .i64 0), .v (.string ⟨#[]⟩), .v (.slice none 0 0)] := by kernel_rfl
@[go_sem] theorem t110_f0 : fldT Tryz.prog 110 0 = some (0, 1, 3) := by kernel_rfl
@[go_sem] theorem t110_f1 : fldT Tryz.prog 110 1 = some (1, 3, 109) := by kernel_rfl
@[go_sem] theorem t110_fo : fldsOf Tryz.prog 110 = some [(0, 1), (1, 3)] := by kernel_rfl
@[go_sem] theorem t111_sz : szT Tryz.prog 111 = some 4 := by kernel_rfl
@[go_sem] theorem t111_by : bytesT Tryz.prog 111 = some 56 := by kernel_rfl
@[go_sem] theorem t111_ag : aggT Tryz.prog 111 = some true := by kernel_rfl
@[go_sem] theorem t111_ze : zeroT Tryz.prog 111 = some [.v (.int .i64 0), .v (.int .i64 0), .v (.string ⟨#[]⟩), .v (.slice none 0 0)] := by kernel_rfl
@[go_sem] theorem t111_f0 : fldT Tryz.prog 111 0 = some (0, 1, 3) := by kernel_rfl
@[go_sem] theorem t111_f1 : fldT Tryz.prog 111 1 = some (1, 3, 109) := by kernel_rfl
@[go_sem] theorem t111_fo : fldsOf Tryz.prog 111 = some [(0, 1), (1, 3)] := by kernel_rfl
@[go_sem] theorem t113_sz : szT Tryz.prog 113 = some 3 := by kernel_rfl
@[go_sem] theorem t113_by : bytesT Tryz.prog 113 = some 40 := by kernel_rfl
@[go_sem] theorem t113_ag : aggT Tryz.prog 113 = some true := by kernel_rfl
@[go_sem] theorem t113_ze : zeroT Tryz.prog 113 = some [.v (.int .i64 0), .v (.string ⟨#[]⟩), .v (.string ⟨#[]⟩)] := by kernel_rfl
@[go_sem] theorem t113_f0 : fldT Tryz.prog 113 0 = some (0, 1, 3) := by kernel_rfl
@[go_sem] theorem t113_f1 : fldT Tryz.prog 113 1 = some (1, 1, 9) := by kernel_rfl
@[go_sem] theorem t113_f2 : fldT Tryz.prog 113 2 = some (2, 1, 9) := by kernel_rfl
@[go_sem] theorem t113_fo : fldsOf Tryz.prog 113 = some [(0, 1), (1, 1), (2, 1)] := by kernel_rfl
@[go_sem] theorem t114_sz : szT Tryz.prog 114 = some 3 := by kernel_rfl
@[go_sem] theorem t114_by : bytesT Tryz.prog 114 = some 40 := by kernel_rfl
@[go_sem] theorem t114_ag : aggT Tryz.prog 114 = some true := by kernel_rfl
@[go_sem] theorem t114_ze : zeroT Tryz.prog 114 = some [.v (.int .i64 0), .v (.string ⟨#[]⟩), .v (.string ⟨#[]⟩)] := by kernel_rfl
@[go_sem] theorem t114_f0 : fldT Tryz.prog 114 0 = some (0, 1, 3) := by kernel_rfl
@[go_sem] theorem t114_f1 : fldT Tryz.prog 114 1 = some (1, 1, 9) := by kernel_rfl
@[go_sem] theorem t114_f2 : fldT Tryz.prog 114 2 = some (2, 1, 9) := by kernel_rfl
@[go_sem] theorem t114_fo : fldsOf Tryz.prog 114 = some [(0, 1), (1, 1), (2, 1)] := by kernel_rfl
@[go_sem] theorem t114_eg : Tryz.prog.eqGuardType Tryz.prog.depth 114 = false := by kernel_rfl
@[go_sem] theorem t114_fl : eqFlds Tryz.prog 114 = some [(3, 0), (9, 1), (9, 2)] := by kernel_rfl
@[go_sem] theorem t114_eq (neg : Bool) (xs ys : List T) : eqAggT Tryz.prog neg 114 (.agg xs) (.agg ys) = (match toVs xs, toVs ys with | some us, some ws => (eqL Tryz.prog 19 [(3, 0), (9, 1), (9, 2)] us ws).map fun b => .v (.bool (if neg = true then !b else b)) | _, _ => none) := eqAgg_t t114_eg t114_ag t114_fl neg xs ys
@[go_sem] theorem t118_sz : szT Tryz.prog 118 = some 5 := by kernel_rfl
@[go_sem] theorem t118_by : bytesT Tryz.prog 118 = some 64 := by kernel_rfl
@[go_sem] theorem t118_ag : aggT Tryz.prog 118 = some true := by kernel_rfl
@[go_sem] theorem t118_ze : zeroT Tryz.prog 118 = some [.v (.int .i64 0), .v (.int .i64 0), .v (.string ⟨#[]⟩), .v (.slice none 0 0), .v (.int .i64 0)] := by kernel_rfl
@[go_sem] theorem t118_f0 : fldT Tryz.prog 118 0 = some (0, 1, 3) := by kernel_rfl
@[go_sem] theorem t118_f1 : fldT Tryz.prog 118 1 = some (1, 1, 3) := by kernel_rfl
@[go_sem] theorem t118_f2 : fldT Tryz.prog 118 2 = some (2, 1, 9) := by kernel_rfl
@[go_sem] theorem t118_f3 : fldT Tryz.prog 118 3 = some (3, 1, 45) := by kernel_rfl
@[go_sem] theorem t118_f4 : fldT Tryz.prog 118 4 = some (4, 1, 3) := by kernel_rfl
@[go_sem] theorem t118_fo : fldsOf Tryz.prog 118 = some [(0, 1), (1, 1), (2, 1), (3, 1), (4, 1)] := by kernel_rfl
@[go_sem] theorem t119_sz : szT Tryz.prog 119 = some 5 := by kernel_rfl
@[go_sem] theorem t119_by : bytesT Tryz.prog 119 = some 64 := by kernel_rfl
@[go_sem] theorem t119_ag : aggT Tryz.prog 119 = some true := by kernel_rfl
@[go_sem] theorem t119_ze : zeroT Tryz.prog 119 = some [.v (.int .i64 0), .v (.int .i64 0), .v (.string ⟨#[]⟩), .v (.slice none 0 0), .v (.int .i64 0)] := by kernel_rfl
@[go_sem] theorem t119_f0 : fldT Tryz.prog 119 0 = some (0, 1, 3) := by kernel_rfl
@[go_sem] theorem t119_f1 : fldT Tryz.prog 119 1 = some (1, 1, 3) := by kernel_rfl
@[go_sem] theorem t119_f2 : fldT Tryz.prog 119 2 = some (2, 1, 9) := by kernel_rfl
@[go_sem] theorem t119_f3 : fldT Tryz.prog 119 3 = some (3, 1, 45) := by kernel_rfl
@[go_sem] theorem t119_f4 : fldT Tryz.prog 119 4 = some (4, 1, 3) := by kernel_rfl
@[go_sem] theorem t119_fo : fldsOf Tryz.prog 119 = some [(0, 1), (1, 1), (2, 1), (3, 1), (4, 1)] := by kernel_rfl
@[go_sem] theorem t120_sz : szT Tryz.prog 120 = some 3 := by kernel_rfl
@[go_sem] theorem t120_by : bytesT Tryz.prog 120 = some 48 := by kernel_rfl
@[go_sem] theorem t120_ag : aggT Tryz.prog 120 = some true := by kernel_rfl
@[go_sem] theorem t120_ze : zeroT Tryz.prog 120 = some [.v (.int .i64 0), .v (.string ⟨#[]⟩), .v (.slice none 0 0)] := by kernel_rfl
@[go_sem] theorem t120_f0 : fldT Tryz.prog 120 0 = some (0, 1, 3) := by kernel_rfl
@[go_sem] theorem t120_f1 : fldT Tryz.prog 120 1 = some (1, 1, 9) := by kernel_rfl
@[go_sem] theorem t120_f2 : fldT Tryz.prog 120 2 = some (2, 1, 54) := by kernel_rfl
@[go_sem] theorem t120_fo : fldsOf Tryz.prog 120 = some [(0, 1), (1, 1), (2, 1)] := by kernel_rfl
@[go_sem] theorem t121_sz : szT Tryz.prog 121 = some 4 := by kernel_rfl
@[go_sem] theorem t121_by : bytesT Tryz.prog 121 = some 56 := by kernel_rfl
@[go_sem] theorem t121_ag : aggT Tryz.prog 121 = some true := by kernel_rfl
@[go_sem] theorem t121_ze : zeroT Tryz.prog 121 = some [.v (.int .i64 0), .v (.int .i64 0), .v (.string ⟨#[]⟩), .v (.slice none 0 0)] := by kernel_rfl
@[go_sem] theorem t121_f0 : fldT Tryz.prog 121 0 = some (0, 1, 3) := by kernel_rfl
@[go_sem] theorem t121_f1 : fldT Tryz.prog 121 1 = some (1, 3, 120) := by kernel_rfl
@[go_sem] theorem t121_fo : fldsOf Tryz.prog 121 = some [(0, 1), (1, 3)] := by kernel_rfl
@[go_sem] theorem t122_sz : szT Tryz.prog 122 = some 4 := by kernel_rfl
@[go_sem] theorem t122_by : bytesT Tryz.prog 122 = some 56 := by kernel_rfl
@[go_sem] theorem t122_ag : aggT Tryz.prog 122 = some true := by kernel_rfl
@[go_sem] theorem t122_ze : zeroT Tryz.prog 122 = some [.v (.int .i64 0), .v (.int .i64 0), .v (.string ⟨#[]⟩), .v (.slice none 0 0)] := by kernel_rfl
@[go_sem] theorem t122_f0 : fldT Tryz.prog 122 0 = some (0, 1, 3) := by kernel_rfl
@[go_sem] theorem t122_f1 : fldT Tryz.prog 122 1 = some (1, 3, 120) := by kernel_rfl
@[go_sem] theorem t122_fo : fldsOf Tryz.prog 122 = some [(0, 1), (1, 3)] := by kernel_rfl
@[go_sem] theorem t136_sz : szT Tryz.prog 136 = some 3 := by kernel_rfl
@[go_sem] theorem t136_by : bytesT Tryz.prog 136 = some 40 := by kernel_rfl
@[go_sem] theorem t136_ag : aggT Tryz.prog 136 = some true := by kernel_rfl
@[go_sem] theorem t136_ze : zeroT Tryz.prog 136 = some [.v (.int .i64 0), .v (.string ⟨#[]⟩), .v (.string ⟨#[]⟩)] := by kernel_rfl
@[go_sem] theorem t136_f0 : fldT Tryz.prog 136 0 = some (0, 1, 3) := by kernel_rfl
@[go_sem] theorem t136_f1 : fldT Tryz.prog 136 1 = some (1, 1, 9) := by kernel_rfl
@[go_sem] theorem t136_f2 : fldT Tryz.prog 136 2 = some (2, 1, 9) := by kernel_rfl
@[go_sem] theorem t136_fo : fldsOf Tryz.prog 136 = some [(0, 1), (1, 1), (2, 1)] := by kernel_rfl
@[go_sem] theorem t136_eg : Tryz.prog.eqGuardType Tryz.prog.depth 136 = false := by kernel_rfl
@[go_sem] theorem t136_fl : eqFlds Tryz.prog 136 = some [(3, 0), (9, 1), (9, 2)] := by kernel_rfl
@[go_sem] theorem t136_eq (neg : Bool) (xs ys : List T) : eqAggT Tryz.prog neg 136 (.agg xs) (.agg ys) = (match toVs xs, toVs ys with | some us, some ws => (eqL Tryz.prog 19 [(3, 0), (9, 1), (9, 2)] us ws).map fun b => .v (.bool (if neg = true then !b else b)) | _, _ => none) := eqAgg_t t136_eg t136_ag t136_fl neg xs ys
@[go_sem] theorem t139_sz : szT Tryz.prog 139 = some 5 := by kernel_rfl
@[go_sem] theorem t139_by : bytesT Tryz.prog 139 = some 64 := by kernel_rfl
@[go_sem] theorem t139_ag : aggT Tryz.prog 139 = some true := by kernel_rfl
@[go_sem] theorem t139_ze : zeroT Tryz.prog 139 = some [.v (.int .i64 0), .v (.int .i64 0), .v (.string ⟨#[]⟩), .v (.slice none 0 0), .v (.int .i64 0)] := by kernel_rfl
@[go_sem] theorem t139_f0 : fldT Tryz.prog 139 0 = some (0, 1, 3) := by kernel_rfl
@[go_sem] theorem t139_f1 : fldT Tryz.prog 139 1 = some (1, 1, 3) := by kernel_rfl
@[go_sem] theorem t139_f2 : fldT Tryz.prog 139 2 = some (2, 1, 9) := by kernel_rfl
@[go_sem] theorem t139_f3 : fldT Tryz.prog 139 3 = some (3, 1, 45) := by kernel_rfl
@[go_sem] theorem t139_f4 : fldT Tryz.prog 139 4 = some (4, 1, 3) := by kernel_rfl
@[go_sem] theorem t139_fo : fldsOf Tryz.prog 139 = some [(0, 1), (1, 1), (2, 1), (3, 1), (4, 1)] := by kernel_rfl
@[go_sem] theorem t142_sz : szT Tryz.prog 142 = some 5 := by kernel_rfl
@[go_sem] theorem t142_by : bytesT Tryz.prog 142 = some 48 := by kernel_rfl
@[go_sem] theorem t142_ag : aggT Tryz.prog 142 = some true := by kernel_rfl
@[go_sem] theorem t142_ze : zeroT Tryz.prog 142 = some [.v (.int .i64 0), .v (.int .i64 0), .v (.int .i64 0), .v (.int .i64 0), .v (.string ⟨#[]⟩)] := by kernel_rfl
@[go_sem] theorem t142_f0 : fldT Tryz.prog 142 0 = some (0, 1, 3) := by kernel_rfl
@[go_sem] theorem t142_f1 : fldT Tryz.prog 142 1 = some (1, 1, 3) := by kernel_rfl
@[go_sem] theorem t142_f2 : fldT Tryz.prog 142 2 = some (2, 1, 3) := by kernel_rfl
@[go_sem] theorem t142_f3 : fldT Tryz.prog 142 3 = some (3, 1, 3) := by kernel_rfl
@[go_sem] theorem t142_f4 : fldT Tryz.prog 142 4 = some (4, 1, 9) := by kernel_rfl
@[go_sem] theorem t142_fo : fldsOf Tryz.prog 142 = some [(0, 1), (1, 1), (2, 1), (3, 1), (4, 1)] := by kernel_rfl
@[go_sem] theorem t143_sz : szT Tryz.prog 143 = some 5 := by kernel_rfl
@[go_sem] theorem t143_by : bytesT Tryz.prog 143 = some 48 := by kernel_rfl
@[go_sem] theorem t143_ag : aggT Tryz.prog 143 = some true := by kernel_rfl
@[go_sem] theorem t143_ze : zeroT Tryz.prog 143 = some [.v (.int .i64 0), .v (.int .i64 0), .v (.int .i64 0), .v (.int .i64 0), .v (.string ⟨#[]⟩)] := by kernel_rfl
@[go_sem] theorem t143_f0 : fldT Tryz.prog 143 0 = some (0, 1, 3) := by kernel_rfl
@[go_sem] theorem t143_f1 : fldT Tryz.prog 143 1 = some (1, 1, 3) := by kernel_rfl
@[go_sem] theorem t143_f2 : fldT Tryz.prog 143 2 = some (2, 1, 3) := by kernel_rfl
@[go_sem] theorem t143_f3 : fldT Tryz.prog 143 3 = some (3, 1, 3) := by kernel_rfl
@[go_sem] theorem t143_f4 : fldT Tryz.prog 143 4 = some (4, 1, 9) := by kernel_rfl
@[go_sem] theorem t143_fo : fldsOf Tryz.prog 143 = some [(0, 1), (1, 1), (2, 1), (3, 1), (4, 1)] := by kernel_rfl
@[go_sem] theorem t143_eg : Tryz.prog.eqGuardType Tryz.prog.depth 143 = false := by kernel_rfl
@[go_sem] theorem t143_fl : eqFlds Tryz.prog 143 = some [(3, 0), (3, 1), (3, 2), (3, 3), (9, 4)] := by kernel_rfl
@[go_sem] theorem t143_eq (neg : Bool) (xs ys : List T) : eqAggT Tryz.prog neg 143 (.agg xs) (.agg ys) = (match toVs xs, toVs ys with | some us, some ws => (eqL Tryz.prog 19 [(3, 0), (3, 1), (3, 2), (3, 3), (9, 4)] us ws).map fun b => .v (.bool (if neg = true then !b else b)) | _, _ => none) := eqAgg_t t143_eg t143_ag t143_fl neg xs ys
@[go_sem] theorem t144_sz : szT Tryz.prog 144 = some 6 := by kernel_rfl
@[go_sem] theorem t144_by : bytesT Tryz.prog 144 = some 56 := by kernel_rfl
@[go_sem] theorem t144_ag : aggT Tryz.prog 144 = some true := by kernel_rfl
@[go_sem] theorem t144_ze : zeroT Tryz.prog 144 = some [.v (.int .i64 0), .v (.int .i64 0), .v (.int .i64 0), .v (.int .i64 0), .v (.int .i64 0), .v (.string ⟨#[]⟩)] := by kernel_rfl
@[go_sem] theorem t144_f0 : fldT Tryz.prog 144 0 = some (0, 1, 3) := by kernel_rfl
@[go_sem] theorem t144_f1 : fldT Tryz.prog 144 1 = some (1, 5, 143) := by kernel_rfl
@[go_sem] theorem t144_fo : fldsOf Tryz.prog 144 = some [(0, 1), (1, 5)] := by kernel_rfl
@[go_sem] theorem t145_sz : szT Tryz.prog 145 = some 6 := by kernel_rfl
@[go_sem] theorem t145_by : bytesT Tryz.prog 145 = some 56 := by kernel_rfl
@[go_sem] theorem t145_ag : aggT Tryz.prog 145 = some true := by kernel_rfl
@[go_sem] theorem t145_ze : zeroT Tryz.prog 145 = some [.v (.int .i64 0), .v (.int .i64 0), .v (.int .i64 0), .v (.int .i64 0), .v (.int .i64 0), .v (.string ⟨#[]⟩)] := by kernel_rfl
@[go_sem] theorem t145_f0 : fldT Tryz.prog 145 0 = some (0, 1, 3) := by kernel_rfl
@[go_sem] theorem t145_f1 : fldT Tryz.prog 145 1 = some (1, 5, 143) := by kernel_rfl
@[go_sem] theorem t145_fo : fldsOf Tryz.prog 145 = some [(0, 1), (1, 5)] := by kernel_rfl
@[go_sem] theorem t160_sz : szT Tryz.prog 160 = some 5 := by kernel_rfl
@[go_sem] theorem t160_by : bytesT Tryz.prog 160 = some 48 := by kernel_rfl
@[go_sem] theorem t160_ag : aggT Tryz.prog 160 = some true := by kernel_rfl
@[go_sem] theorem t160_ze : zeroT Tryz.prog 160 = some [.v (.int .i64 0), .v (.int .i64 0), .v (.int .i64 0), .v (.int .i64 0), .v (.string ⟨#[]⟩)] := by kernel_rfl
@[go_sem] theorem t160_f0 : fldT Tryz.prog 160 0 = some (0, 1, 3) := by kernel_rfl
@[go_sem] theorem t160_f1 : fldT Tryz.prog 160 1 = some (1, 1, 3) := by kernel_rfl
@[go_sem] theorem t160_f2 : fldT Tryz.prog 160 2 = some (2, 1, 3) := by kernel_rfl
@[go_sem] theorem t160_f3 : fldT Tryz.prog 160 3 = some (3, 1, 3) := by kernel_rfl
@[go_sem] theorem t160_f4 : fldT Tryz.prog 160 4 = some (4, 1, 9) := by kernel_rfl
@[go_sem] theorem t160_fo : fldsOf Tryz.prog 160 = some [(0, 1), (1, 1), (2, 1), (3, 1), (4, 1)] := by kernel_rfl
@[go_sem] theorem t160_eg : Tryz.prog.eqGuardType Tryz.prog.depth 160 = false := by kernel_rfl
@[go_sem] theorem t160_fl : eqFlds Tryz.prog 160 = some [(3, 0), (3, 1), (3, 2), (3, 3), (9, 4)] := by kernel_rfl
@[go_sem] theorem t160_eq (neg : Bool) (xs ys : List T) : eqAggT Tryz.prog neg 160 (.agg xs) (.agg ys) = (match toVs xs, toVs ys with | some us, some ws => (eqL Tryz.prog 19 [(3, 0), (3, 1), (3, 2), (3, 3), (9, 4)] us ws).map fun b => .v (.bool (if neg = true then !b else b)) | _, _ => none) := eqAgg_t t160_eg t160_ag t160_fl neg xs ys
@[go_sem] theorem t161_sz : szT Tryz.prog 161 = some 6 := by kernel_rfl
@[go_sem] theorem t161_by : bytesT Tryz.prog 161 = some 56 := by kernel_rfl
@[go_sem] theorem t161_ag : aggT Tryz.prog 161 = some true := by kernel_rfl
@[go_sem] theorem t161_ze : zeroT Tryz.prog 161 = some [.v (.int .i64 0), .v (.int .i64 0), .v (.int .i64 0), .v (.int .i64 0), .v (.int .i64 0), .v (.string ⟨#[]⟩)] := by kernel_rfl
@[go_sem] theorem t161_f0 : fldT Tryz.prog 161 0 = some (0, 1, 3) := by kernel_rfl
@[go_sem] theorem t161_f1 : fldT Tryz.prog 161 1 = some (1, 5, 160) := by kernel_rfl
@[go_sem] theorem t161_fo : fldsOf Tryz.prog 161 = some [(0, 1), (1, 5)] := by kernel_rfl
@[go_sem] theorem t162_sz : szT Tryz.prog 162 = some 6 := by kernel_rfl
@[go_sem] theorem t162_by : bytesT Tryz.prog 162 = some 56 := by kernel_rfl
@[go_sem] theorem t162_ag : aggT Tryz.prog 162 = some true := by kernel_rfl
@[go_sem] theorem t162_ze : zeroT Tryz.prog 162 = some [.v (.int .i64 0), .v (.int .i64 0), .v (.int .i64 0), .v (.int .i64 0), .v (.int .i64 0), .v (.string ⟨#[]⟩)] := by kernel_rfl
@[go_sem] theorem t162_f0 : fldT Tryz.prog 162 0 = some (0, 1, 3) := by kernel_rfl
@[go_sem] theorem t162_f1 : fldT Tryz.prog 162 1 = some (1, 5, 160) := by kernel_rfl
@[go_sem] theorem t162_fo : fldsOf Tryz.prog 162 = some [(0, 1), (1, 5)] := by kernel_rfl
@[go_sem] theorem t166_sz : szT Tryz.prog 166 = some 24 := by kernel_rfl
@[go_sem] theorem t166_by : bytesT Tryz.prog 166 = some 24 := by kernel_rfl
@[go_sem] theorem t166_ag : aggT Tryz.prog 166 = some true := by kernel_rfl
@[go_sem] theorem t166_ze : zeroT Tryz.prog 166 = some [.v (.int .u8 0), .v (.int .u8 0), .v (.int .u8 0), .v (.int .u8 0), .v (.int .u8 0), .v (.int .u8 0), .v (.int .u8 0), .v (.int .u8 0), .v (.int .u8 0), .v (.int .u8 0), .v (.int .u8 0), .v (.int .u8 0), .v (.int .u8 0), .v (.int .u8 0), .v (.int .u8 0), .v (.int .u8 0), .v (.int .u8 0), .v (.int .u8 0), .v (.int .u8 0), .v (.int .u8 0), .v (.int .u8 0), .v (.int .u8 0), .v (.int .u8 0), .v (.int .u8 0)] := by kernel_rfl
@[go_sem] theorem t166_fo : fldsOf Tryz.prog 166 = none := by kernel_rfl
@[go_sem] theorem t166_ea : eArr Tryz.prog 166 = some 1 := by kernel_rfl
@[go_sem] theorem t166_ar : arrT Tryz.prog 166 = some (24, 5) := by kernel_rfl
@[go_sem] theorem t166_el : elemT Tryz.prog 166 = none := by kernel_rfl
@[go_sem] theorem t167_sz : szT Tryz.prog 167 = some 1 := by kernel_rfl
@[go_sem] theorem t167_by : bytesT Tryz.prog 167 = some 8 := by kernel_rfl
@[go_sem] theorem t167_ag : aggT Tryz.prog 167 = some false := by kernel_rfl
@[go_sem] theorem t167_ze : zeroT Tryz.prog 167 = some [.v (.int .u64 0)] := by kernel_rfl
@[go_sem] theorem t167_un : Tryz.prog.underlying 167 = some (.int .u64) := by kernel_rfl
@[go_sem] theorem t167_ec (m : Nat) (k : IntKind) (a b : Int) : eqC Tryz.prog (m + 1) 167 [.int k a] [.int k b] = some (decide (a = b)) := eqC_int t167_un k a b
@[go_sem] theorem t177_sz : szT Tryz.prog 177 = some 20 := by kernel_rfl
@[go_sem] theorem t177_by : bytesT Tryz.prog 177 = some 160 := by kernel_rfl
@[go_sem] theorem t177_ag : aggT Tryz.prog 177 = some true := by kernel_rfl
@[go_sem] theorem t177_ze : zeroT Tryz.prog 177 = some [.v (.int .u64 0), .v (.int .u64 0), .v (.int .u64 0), .v (.int .u64 0), .v (.int .u64 0), .v (.int .u64 0), .v (.int .u64 0), .v (.int .u64 0), .v (.int .u64 0), .v (.int .u64 0), .v (.int .u64 0), .v (.int .u64 0), .v (.int .u64 0), .v (.int .u64 0), .v (.int .u64 0), .v (.int .u64 0), .v (.int .u64 0), .v (.int .u64 0), .v (.int .u64 0), .v (.int .u64 0)] := by kernel_rfl
@[go_sem] theorem t177_fo : fldsOf Tryz.prog 177 = none := by kernel_rfl
@[go_sem] theorem t177_ea : eArr Tryz.prog 177 = some 1 := by kernel_rfl
@[go_sem] theorem t177_ar : arrT Tryz.prog 177 = some (20, 167) := by kernel_rfl
@[go_sem] theorem t177_el : elemT Tryz.prog 177 = none := by kernel_rfl
@[go_sem] theorem t178_sz : szT Tryz.prog 178 = some 1 := by kernel_rfl
@[go_sem] theorem t178_by : bytesT Tryz.prog 178 = some 4 := by kernel_rfl
@[go_sem] theorem t178_ag : aggT Tryz.prog 178 = some false := by kernel_rfl
@[go_sem] theorem t178_ze : zeroT Tryz.prog 178 = some [.v (.int .u32 0)] := by kernel_rfl
@[go_sem] theorem t178_un : Tryz.prog.underlying 178 = some (.int .u32) := by kernel_rfl
@[go_sem] theorem t178_ec (m : Nat) (k : IntKind) (a b : Int) : eqC Tryz.prog (m + 1) 178 [.int k a] [.int k b] = some (decide (a = b)) := eqC_int t178_un k a b
@[go_sem] theorem t180_sz : szT Tryz.prog 180 = some 1 := by kernel_rfl
@[go_sem] theorem t180_by : bytesT Tryz.prog 180 = some 8 := by kernel_rfl
@[go_sem] theorem t180_ag : aggT Tryz.prog 180 = some false := by kernel_rfl
@[go_sem] theorem t180_ze : zeroT Tryz.prog 180 = some [.v (.int .u64 0)] := by kernel_rfl
@[go_sem] theorem t180_un : Tryz.prog.underlying 180 = some (.int .u64) := by kernel_rfl
@[go_sem] theorem t180_ec (m : Nat) (k : IntKind) (a b : Int) : eqC Tryz.prog (m + 1) 180 [.int k a] [.int k b] = some (decide (a = b)) := eqC_int t180_un k a b
@[go_sem] theorem t184_sz : szT Tryz.prog 184 = some 32 := by kernel_rfl
@[go_sem] theorem t184_by : bytesT Tryz.prog 184 = some 32 := by kernel_rfl
@[go_sem] theorem t184_ag : aggT Tryz.prog 184 = some true := by kernel_rfl
@[go_sem] theorem t184_ze : zeroT Tryz.prog 184 = some [.v (.int .u8 0), .v (.int .u8 0), .v (.int .u8 0), .v (.int .u8 0), .v (.int .u8 0), .v (.int .u8 0), .v (.int .u8 0), .v (.int .u8 0), .v (.int .u8 0), .v (.int .u8 0), .v (.int .u8 0), .v (.int .u8 0), .v (.int .u8 0), .v (.int .u8 0), .v (.int .u8 0), .v (.int .u8 0), .v (.int .u8 0), .v (.int .u8 0), .v (.int .u8 0), .v (.int .u8 0), .v (.int .u8 0), .v (.int .u8 0), .v (.int .u8 0), .v (.int .u8 0), .v (.int .u8 0), .v (.int .u8 0), .v (.int .u8 0), .v (.int .u8 0), .v (.int .u8 0), .v (.int .u8 0), .v (.int .u8 0), .v (.int .u8 0)] := by kernel_rfl
@[go_sem] theorem t184_fo : fldsOf Tryz.prog 184 = none := by kernel_rfl
@[go_sem] theorem t184_ea : eArr Tryz.prog 184 = some 1 := by kernel_rfl
@[go_sem] theorem t184_ar : arrT Tryz.prog 184 = some (32, 5) := by kernel_rfl
@[go_sem] theorem t184_el : elemT Tryz.prog 184 = none := by kernel_rfl
@[go_sem] theorem t185_sz : szT Tryz.prog 185 = some 64 := by kernel_rfl
@[go_sem] theorem t185_by : bytesT Tryz.prog 185 = some 64 := by kernel_rfl
@[go_sem] theorem t185_ag : aggT Tryz.prog 185 = some true := by kernel_rfl
@[go_sem] theorem t185_ze : zeroT Tryz.prog 185 = some [.v (.int .u8 0), .v (.int .u8 0), .v (.int .u8 0), .v (.int .u8 0), .v (.int .u8 0), .v (.int .u8 0), .v (.int .u8 0), .v (.int .u8 0), .v (.int .u8 0), .v (.int .u8 0), .v (.int .u8 0), .v (.int .u8 0), .v (.int .u8 0), .v (.int .u8 0), .v (.int .u8 0), .v (.int .u8 0), .v (.int .u8 0), .v (.int .u8 0), .v (.int .u8 0), .v (.int .u8 0), .v (.int .u8 0), .v (.int .u8 0), .v (.int .u8 0), .v (.int .u8 0), .v (.int .u8 0), .v (.int .u8 0), .v (.int .u8 0), .v (.int .u8 0), .v (.int .u8 0), .v (.int .u8 0), .v (.int .u8 0), .v (.int .u8 0), .v (.int .u8 0), .v (.int .u8 0), .v (.int .u8 0), .v (.int .u8 0), .v (.int .u8 0), .v (.int .u8 0), .v (.int .u8 0), .v (.int .u8 0), .v (.int .u8 0), .v (.int .u8 0), .v (.int .u8 0), .v (.int .u8 0), .v (.int .u8 0), .v (.int .u8 0), .v (.int .u8 0), .v (.int .u8 0), .v (.int .u8 0), .v (.int .u8 0), .v (.int .u8 0), .v (.int .u8 0), .v (.int .u8 0), .v (.int .u8 0), .v (.int .u8 0), .v (.int .u8 0), .v (.int .u8 0), .v (.int .u8 0), .v (.int .u8 0), .v (.int .u8 0), .v (.int .u8 0), .v (.int .u8 0), .v (.int .u8 0), .v (.int .u8 0)] := by kernel_rfl
@[go_sem] theorem t185_fo : fldsOf Tryz.prog 185 = none := by kernel_rfl
@[go_sem] theorem t185_ea : eArr Tryz.prog 185 = some 1 := by kernel_rfl
@[go_sem] theorem t185_ar : arrT Tryz.prog 185 = some (64, 5) := by kernel_rfl
@[go_sem] theorem t185_el : elemT Tryz.prog 185 = none := by kernel_rfl
abbrev F.laws_FnExactShowMember : FuncId := 3
theorem C.laws_FnExactShowMember : Tryz.prog.funcs[F.laws_FnExactShowMember]? = some Tryz.f3 := Tryz.func3
abbrev F.laws_szFleet : FuncId := 4
theorem C.laws_szFleet : Tryz.prog.funcs[F.laws_szFleet]? = some Tryz.f4 := Tryz.func4
abbrev F.spec_ShowMember : FuncId := 5
theorem C.spec_ShowMember : Tryz.prog.funcs[F.spec_ShowMember]? = some Tryz.f5 := Tryz.func5
abbrev F.laws_toFleet : FuncId := 6
theorem C.laws_toFleet : Tryz.prog.funcs[F.laws_toFleet]? = some Tryz.f6 := Tryz.func6
abbrev F.impl_ShowMember : FuncId := 7
theorem C.impl_ShowMember : Tryz.prog.funcs[F.impl_ShowMember]? = some Tryz.f7 := Tryz.func7
abbrev F.laws_eqFleet : FuncId := 8
theorem C.laws_eqFleet : Tryz.prog.funcs[F.laws_eqFleet]? = some Tryz.f8 := Tryz.func8
abbrev F.laws_szMemberS : FuncId := 9
theorem C.laws_szMemberS : Tryz.prog.funcs[F.laws_szMemberS]? = some Tryz.f9 := Tryz.func9
abbrev F.laws_szFlightS : FuncId := 10
theorem C.laws_szFlightS : Tryz.prog.funcs[F.laws_szFlightS]? = some Tryz.f10 := Tryz.func10
abbrev F.spec_FleetOk : FuncId := 11
theorem C.spec_FleetOk : Tryz.prog.funcs[F.spec_FleetOk]? = some Tryz.f11 := Tryz.func11
abbrev F.spec_l1In : FuncId := 12
theorem C.spec_l1In : Tryz.prog.funcs[F.spec_l1In]? = some Tryz.f12 := Tryz.func12
abbrev F.spec_TextOf : FuncId := 13
theorem C.spec_TextOf : Tryz.prog.funcs[F.spec_TextOf]? = some Tryz.f13 := Tryz.func13
abbrev F.laws_toMemberS : FuncId := 14
theorem C.laws_toMemberS : Tryz.prog.funcs[F.laws_toMemberS]? = some Tryz.f14 := Tryz.func14
abbrev F.laws_toFlightS : FuncId := 15
theorem C.laws_toFlightS : Tryz.prog.funcs[F.laws_toFlightS]? = some Tryz.f15 := Tryz.func15
abbrev F.impl_FleetOk : FuncId := 16
theorem C.impl_FleetOk : Tryz.prog.funcs[F.impl_FleetOk]? = some Tryz.f16 := Tryz.func16
abbrev F.impl_within : FuncId := 17
theorem C.impl_within : Tryz.prog.funcs[F.impl_within]? = some Tryz.f17 := Tryz.func17
abbrev F.impl_TextOf : FuncId := 18
theorem C.impl_TextOf : Tryz.prog.funcs[F.impl_TextOf]? = some Tryz.f18 := Tryz.func18
abbrev F.laws_eqMemberS : FuncId := 19
theorem C.laws_eqMemberS : Tryz.prog.funcs[F.laws_eqMemberS]? = some Tryz.f19 := Tryz.func19
abbrev F.laws_eqFlightS : FuncId := 20
theorem C.laws_eqFlightS : Tryz.prog.funcs[F.laws_eqFlightS]? = some Tryz.f20 := Tryz.func20
abbrev F.laws_szMember : FuncId := 21
theorem C.laws_szMember : Tryz.prog.funcs[F.laws_szMember]? = some Tryz.f21 := Tryz.func21
abbrev F.laws_szFlight : FuncId := 22
theorem C.laws_szFlight : Tryz.prog.funcs[F.laws_szFlight]? = some Tryz.f22 := Tryz.func22
abbrev F.spec_l7Of : FuncId := 23
theorem C.spec_l7Of : Tryz.prog.funcs[F.spec_l7Of]? = some Tryz.f23 := Tryz.func23
abbrev F.spec_l15Member : FuncId := 24
theorem C.spec_l15Member : Tryz.prog.funcs[F.spec_l15Member]? = some Tryz.f24 := Tryz.func24
abbrev F.laws_toMember : FuncId := 25
theorem C.laws_toMember : Tryz.prog.funcs[F.laws_toMember]? = some Tryz.f25 := Tryz.func25
abbrev F.laws_toFlight : FuncId := 26
theorem C.laws_toFlight : Tryz.prog.funcs[F.laws_toFlight]? = some Tryz.f26 := Tryz.func26
abbrev F.impl_isOf : FuncId := 27
theorem C.impl_isOf : Tryz.prog.funcs[F.impl_isOf]? = some Tryz.f27 := Tryz.func27
abbrev F.impl_memberOk : FuncId := 28
theorem C.impl_memberOk : Tryz.prog.funcs[F.impl_memberOk]? = some Tryz.f28 := Tryz.func28
abbrev F.impl_digits : FuncId := 29
theorem C.impl_digits : Tryz.prog.funcs[F.impl_digits]? = some Tryz.f29 := Tryz.func29
abbrev F.laws_eqMember : FuncId := 30
theorem C.laws_eqMember : Tryz.prog.funcs[F.laws_eqMember]? = some Tryz.f30 := Tryz.func30
abbrev F.laws_eqFlight : FuncId := 31
theorem C.laws_eqFlight : Tryz.prog.funcs[F.laws_eqFlight]? = some Tryz.f31 := Tryz.func31
abbrev F.laws_szDisk : FuncId := 32
theorem C.laws_szDisk : Tryz.prog.funcs[F.laws_szDisk]? = some Tryz.f32 := Tryz.func32
abbrev F.laws_szRaft : FuncId := 33
theorem C.laws_szRaft : Tryz.prog.funcs[F.laws_szRaft]? = some Tryz.f33 := Tryz.func33
abbrev F.laws_szRoll : FuncId := 34
theorem C.laws_szRoll : Tryz.prog.funcs[F.laws_szRoll]? = some Tryz.f34 := Tryz.func34
abbrev F.laws_szHeldS : FuncId := 35
theorem C.laws_szHeldS : Tryz.prog.funcs[F.laws_szHeldS]? = some Tryz.f35 := Tryz.func35
abbrev F.spec_DiskOk : FuncId := 36
theorem C.spec_DiskOk : Tryz.prog.funcs[F.spec_DiskOk]? = some Tryz.f36 := Tryz.func36
abbrev F.spec_RaftOk : FuncId := 37
theorem C.spec_RaftOk : Tryz.prog.funcs[F.spec_RaftOk]? = some Tryz.f37 := Tryz.func37
abbrev F.spec_RollOk : FuncId := 38
theorem C.spec_RollOk : Tryz.prog.funcs[F.spec_RollOk]? = some Tryz.f38 := Tryz.func38
abbrev F.spec_HeldsOk : FuncId := 39
theorem C.spec_HeldsOk : Tryz.prog.funcs[F.spec_HeldsOk]? = some Tryz.f39 := Tryz.func39
abbrev F.laws_toDisk : FuncId := 40
theorem C.laws_toDisk : Tryz.prog.funcs[F.laws_toDisk]? = some Tryz.f40 := Tryz.func40
abbrev F.laws_toRaft : FuncId := 41
theorem C.laws_toRaft : Tryz.prog.funcs[F.laws_toRaft]? = some Tryz.f41 := Tryz.func41
abbrev F.laws_toRoll : FuncId := 42
theorem C.laws_toRoll : Tryz.prog.funcs[F.laws_toRoll]? = some Tryz.f42 := Tryz.func42
abbrev F.laws_toHeldS : FuncId := 43
theorem C.laws_toHeldS : Tryz.prog.funcs[F.laws_toHeldS]? = some Tryz.f43 := Tryz.func43
abbrev F.impl_DiskOk : FuncId := 44
theorem C.impl_DiskOk : Tryz.prog.funcs[F.impl_DiskOk]? = some Tryz.f44 := Tryz.func44
abbrev F.impl_isBare : FuncId := 45
theorem C.impl_isBare : Tryz.prog.funcs[F.impl_isBare]? = some Tryz.f45 := Tryz.func45
abbrev F.impl_RaftOk : FuncId := 46
theorem C.impl_RaftOk : Tryz.prog.funcs[F.impl_RaftOk]? = some Tryz.f46 := Tryz.func46
abbrev F.impl_RollOk : FuncId := 47
theorem C.impl_RollOk : Tryz.prog.funcs[F.impl_RollOk]? = some Tryz.f47 := Tryz.func47
abbrev F.impl_HeldsOk : FuncId := 48
theorem C.impl_HeldsOk : Tryz.prog.funcs[F.impl_HeldsOk]? = some Tryz.f48 := Tryz.func48
abbrev F.strconv_Itoa : FuncId := 49
theorem C.strconv_Itoa : Tryz.prog.funcs[F.strconv_Itoa]? = some Tryz.f49 := Tryz.func49
abbrev F.laws_eqDisk : FuncId := 50
theorem C.laws_eqDisk : Tryz.prog.funcs[F.laws_eqDisk]? = some Tryz.f50 := Tryz.func50
abbrev F.laws_eqRaft : FuncId := 51
theorem C.laws_eqRaft : Tryz.prog.funcs[F.laws_eqRaft]? = some Tryz.f51 := Tryz.func51
abbrev F.laws_eqRoll : FuncId := 52
theorem C.laws_eqRoll : Tryz.prog.funcs[F.laws_eqRoll]? = some Tryz.f52 := Tryz.func52
abbrev F.laws_eqHeldS : FuncId := 53
theorem C.laws_eqHeldS : Tryz.prog.funcs[F.laws_eqHeldS]? = some Tryz.f53 := Tryz.func53
abbrev F.laws_szFileS : FuncId := 54
theorem C.laws_szFileS : Tryz.prog.funcs[F.laws_szFileS]? = some Tryz.f54 := Tryz.func54
abbrev F.laws_szHard : FuncId := 55
theorem C.laws_szHard : Tryz.prog.funcs[F.laws_szHard]? = some Tryz.f55 := Tryz.func55
abbrev F.laws_szIntS : FuncId := 56
theorem C.laws_szIntS : Tryz.prog.funcs[F.laws_szIntS]? = some Tryz.f56 := Tryz.func56
abbrev F.laws_szRelS : FuncId := 57
theorem C.laws_szRelS : Tryz.prog.funcs[F.laws_szRelS]? = some Tryz.f57 := Tryz.func57
abbrev F.laws_szHeld : FuncId := 58
theorem C.laws_szHeld : Tryz.prog.funcs[F.laws_szHeld]? = some Tryz.f58 := Tryz.func58
abbrev F.spec_l3Size : FuncId := 59
theorem C.spec_l3Size : Tryz.prog.funcs[F.spec_l3Size]? = some Tryz.f59 := Tryz.func59
abbrev F.spec_l3Name : FuncId := 60
theorem C.spec_l3Name : Tryz.prog.funcs[F.spec_l3Name]? = some Tryz.f60 := Tryz.func60
abbrev F.spec_HardOk : FuncId := 61
theorem C.spec_HardOk : Tryz.prog.funcs[F.spec_HardOk]? = some Tryz.f61 := Tryz.func61
abbrev F.spec_l10End : FuncId := 62
theorem C.spec_l10End : Tryz.prog.funcs[F.spec_l10End]? = some Tryz.f62 := Tryz.func62
abbrev F.spec_l7Nodes : FuncId := 63
theorem C.spec_l7Nodes : Tryz.prog.funcs[F.spec_l7Nodes]? = some Tryz.f63 := Tryz.func63
abbrev F.spec_l7Has : FuncId := 64
theorem C.spec_l7Has : Tryz.prog.funcs[F.spec_l7Has]? = some Tryz.f64 := Tryz.func64
abbrev F.spec_ParcelOk : FuncId := 65
theorem C.spec_ParcelOk : Tryz.prog.funcs[F.spec_ParcelOk]? = some Tryz.f65 := Tryz.func65
abbrev F.laws_toFileS : FuncId := 66
theorem C.laws_toFileS : Tryz.prog.funcs[F.laws_toFileS]? = some Tryz.f66 := Tryz.func66
abbrev F.laws_toHard : FuncId := 67
theorem C.laws_toHard : Tryz.prog.funcs[F.laws_toHard]? = some Tryz.f67 := Tryz.func67
abbrev F.laws_toIntS : FuncId := 68
theorem C.laws_toIntS : Tryz.prog.funcs[F.laws_toIntS]? = some Tryz.f68 := Tryz.func68
abbrev F.laws_toRelS : FuncId := 69
theorem C.laws_toRelS : Tryz.prog.funcs[F.laws_toRelS]? = some Tryz.f69 := Tryz.func69
abbrev F.laws_toHeld : FuncId := 70
theorem C.laws_toHeld : Tryz.prog.funcs[F.laws_toHeld]? = some Tryz.f70 := Tryz.func70
abbrev F.impl_isFile : FuncId := 71
theorem C.impl_isFile : Tryz.prog.funcs[F.impl_isFile]? = some Tryz.f71 := Tryz.func71
abbrev F.impl_sizeOf : FuncId := 72
theorem C.impl_sizeOf : Tryz.prog.funcs[F.impl_sizeOf]? = some Tryz.f72 := Tryz.func72
abbrev F.impl_HardOk : FuncId := 73
theorem C.impl_HardOk : Tryz.prog.funcs[F.impl_HardOk]? = some Tryz.f73 := Tryz.func73
abbrev F.impl_nodesAscend : FuncId := 74
theorem C.impl_nodesAscend : Tryz.prog.funcs[F.impl_nodesAscend]? = some Tryz.f74 := Tryz.func74
abbrev F.slices_Contains_int : FuncId := 75
theorem C.slices_Contains_int : Tryz.prog.funcs[F.slices_Contains_int]? = some Tryz.f75 := Tryz.func75
abbrev F.impl_numbersIn : FuncId := 76
theorem C.impl_numbersIn : Tryz.prog.funcs[F.impl_numbersIn]? = some Tryz.f76 := Tryz.func76
abbrev F.impl_isRelease : FuncId := 77
theorem C.impl_isRelease : Tryz.prog.funcs[F.impl_isRelease]? = some Tryz.f77 := Tryz.func77
abbrev F.impl_isSize : FuncId := 78
theorem C.impl_isSize : Tryz.prog.funcs[F.impl_isSize]? = some Tryz.f78 := Tryz.func78
abbrev F.slices_Equal_int : FuncId := 79
theorem C.slices_Equal_int : Tryz.prog.funcs[F.slices_Equal_int]? = some Tryz.f79 := Tryz.func79
abbrev F.impl_ParcelOk : FuncId := 80
theorem C.impl_ParcelOk : Tryz.prog.funcs[F.impl_ParcelOk]? = some Tryz.f80 := Tryz.func80
abbrev F.internal_strconv_Itoa : FuncId := 81
theorem C.internal_strconv_Itoa : Tryz.prog.funcs[F.internal_strconv_Itoa]? = some Tryz.f81 := Tryz.func81
abbrev F.laws_eqFileS : FuncId := 82
theorem C.laws_eqFileS : Tryz.prog.funcs[F.laws_eqFileS]? = some Tryz.f82 := Tryz.func82
abbrev F.laws_eqHard : FuncId := 83
theorem C.laws_eqHard : Tryz.prog.funcs[F.laws_eqHard]? = some Tryz.f83 := Tryz.func83
abbrev F.laws_eqIntS : FuncId := 84
theorem C.laws_eqIntS : Tryz.prog.funcs[F.laws_eqIntS]? = some Tryz.f84 := Tryz.func84
abbrev F.laws_eqRelS : FuncId := 85
theorem C.laws_eqRelS : Tryz.prog.funcs[F.laws_eqRelS]? = some Tryz.f85 := Tryz.func85
abbrev F.laws_eqHeld : FuncId := 86
theorem C.laws_eqHeld : Tryz.prog.funcs[F.laws_eqHeld]? = some Tryz.f86 := Tryz.func86
abbrev F.laws_szFile : FuncId := 87
theorem C.laws_szFile : Tryz.prog.funcs[F.laws_szFile]? = some Tryz.f87 := Tryz.func87
abbrev F.laws_szEntryS : FuncId := 88
theorem C.laws_szEntryS : Tryz.prog.funcs[F.laws_szEntryS]? = some Tryz.f88 := Tryz.func88
abbrev F.laws_szRel : FuncId := 89
theorem C.laws_szRel : Tryz.prog.funcs[F.laws_szRel]? = some Tryz.f89 := Tryz.func89
abbrev F.laws_szParcel : FuncId := 90
theorem C.laws_szParcel : Tryz.prog.funcs[F.laws_szParcel]? = some Tryz.f90 := Tryz.func90
abbrev F.spec_l1Whole : FuncId := 91
theorem C.spec_l1Whole : Tryz.prog.funcs[F.spec_l1Whole]? = some Tryz.f91 := Tryz.func91
abbrev F.spec_l6Entry : FuncId := 92
theorem C.spec_l6Entry : Tryz.prog.funcs[F.spec_l6Entry]? = some Tryz.f92 := Tryz.func92
abbrev F.spec_PartsOf : FuncId := 93
theorem C.spec_PartsOf : Tryz.prog.funcs[F.spec_PartsOf]? = some Tryz.f93 := Tryz.func93
abbrev F.spec_l9Long : FuncId := 94
theorem C.spec_l9Long : Tryz.prog.funcs[F.spec_l9Long]? = some Tryz.f94 := Tryz.func94
abbrev F.laws_toFile : FuncId := 95
theorem C.laws_toFile : Tryz.prog.funcs[F.laws_toFile]? = some Tryz.f95 := Tryz.func95
abbrev F.laws_toEntryS : FuncId := 96
theorem C.laws_toEntryS : Tryz.prog.funcs[F.laws_toEntryS]? = some Tryz.f96 := Tryz.func96
abbrev F.laws_toRel : FuncId := 97
theorem C.laws_toRel : Tryz.prog.funcs[F.laws_toRel]? = some Tryz.f97 := Tryz.func97
abbrev F.laws_toParcel : FuncId := 98
theorem C.laws_toParcel : Tryz.prog.funcs[F.laws_toParcel]? = some Tryz.f98 := Tryz.func98
abbrev F.impl_CmdOk : FuncId := 99
theorem C.impl_CmdOk : Tryz.prog.funcs[F.impl_CmdOk]? = some Tryz.f99 := Tryz.func99
abbrev F.impl_lastTerm : FuncId := 100
theorem C.impl_lastTerm : Tryz.prog.funcs[F.impl_lastTerm]? = some Tryz.f100 := Tryz.func100
abbrev F.impl_isWhole : FuncId := 101
theorem C.impl_isWhole : Tryz.prog.funcs[F.impl_isWhole]? = some Tryz.f101 := Tryz.func101
abbrev F.slices_Index_int : FuncId := 102
theorem C.slices_Index_int : Tryz.prog.funcs[F.slices_Index_int]? = some Tryz.f102 := Tryz.func102
abbrev F.impl_PartsOf : FuncId := 103
theorem C.impl_PartsOf : Tryz.prog.funcs[F.impl_PartsOf]? = some Tryz.f103 := Tryz.func103
abbrev F.impl_partLong : FuncId := 104
theorem C.impl_partLong : Tryz.prog.funcs[F.impl_partLong]? = some Tryz.f104 := Tryz.func104
abbrev F.internal_strconv_FormatInt : FuncId := 105
theorem C.internal_strconv_FormatInt : Tryz.prog.funcs[F.internal_strconv_FormatInt]? = some Tryz.f105 := Tryz.func105
abbrev F.laws_eqFile : FuncId := 106
theorem C.laws_eqFile : Tryz.prog.funcs[F.laws_eqFile]? = some Tryz.f106 := Tryz.func106
abbrev F.laws_eqEntryS : FuncId := 107
theorem C.laws_eqEntryS : Tryz.prog.funcs[F.laws_eqEntryS]? = some Tryz.f107 := Tryz.func107
abbrev F.laws_eqRel : FuncId := 108
theorem C.laws_eqRel : Tryz.prog.funcs[F.laws_eqRel]? = some Tryz.f108 := Tryz.func108
abbrev F.laws_eqParcel : FuncId := 109
theorem C.laws_eqParcel : Tryz.prog.funcs[F.laws_eqParcel]? = some Tryz.f109 := Tryz.func109
abbrev F.laws_szEntry : FuncId := 110
theorem C.laws_szEntry : Tryz.prog.funcs[F.laws_szEntry]? = some Tryz.f110 := Tryz.func110
abbrev F.laws_szStringS : FuncId := 111
theorem C.laws_szStringS : Tryz.prog.funcs[F.laws_szStringS]? = some Tryz.f111 := Tryz.func111
abbrev F.spec_CmdOk : FuncId := 112
theorem C.spec_CmdOk : Tryz.prog.funcs[F.spec_CmdOk]? = some Tryz.f112 := Tryz.func112
abbrev F.spec_l1Min : FuncId := 113
theorem C.spec_l1Min : Tryz.prog.funcs[F.spec_l1Min]? = some Tryz.f113 := Tryz.func113
abbrev F.laws_toEntry : FuncId := 114
theorem C.laws_toEntry : Tryz.prog.funcs[F.laws_toEntry]? = some Tryz.f114 := Tryz.func114
abbrev F.laws_toStringS : FuncId := 115
theorem C.laws_toStringS : Tryz.prog.funcs[F.laws_toStringS]? = some Tryz.f115 := Tryz.func115
abbrev F.impl_isNode : FuncId := 116
theorem C.impl_isNode : Tryz.prog.funcs[F.impl_isNode]? = some Tryz.f116 := Tryz.func116
abbrev F.internal_strconv_small : FuncId := 117
theorem C.internal_strconv_small : Tryz.prog.funcs[F.internal_strconv_small]? = some Tryz.f117 := Tryz.func117
abbrev F.internal_strconv_numDigits : FuncId := 118
theorem C.internal_strconv_numDigits : Tryz.prog.funcs[F.internal_strconv_numDigits]? = some Tryz.f118 := Tryz.func118
abbrev F.internal_strconv_formatBase10 : FuncId := 119
theorem C.internal_strconv_formatBase10 : Tryz.prog.funcs[F.internal_strconv_formatBase10]? = some Tryz.f119 := Tryz.func119
abbrev F.internal_strconv_formatBits : FuncId := 120
theorem C.internal_strconv_formatBits : Tryz.prog.funcs[F.internal_strconv_formatBits]? = some Tryz.f120 := Tryz.func120
abbrev F.laws_eqEntry : FuncId := 121
theorem C.laws_eqEntry : Tryz.prog.funcs[F.laws_eqEntry]? = some Tryz.f121 := Tryz.func121
abbrev F.laws_eqStringS : FuncId := 122
theorem C.laws_eqStringS : Tryz.prog.funcs[F.laws_eqStringS]? = some Tryz.f122 := Tryz.func122
abbrev F.laws_szCmd : FuncId := 123
theorem C.laws_szCmd : Tryz.prog.funcs[F.laws_szCmd]? = some Tryz.f123 := Tryz.func123
abbrev F.laws_toCmd : FuncId := 124
theorem C.laws_toCmd : Tryz.prog.funcs[F.laws_toCmd]? = some Tryz.f124 := Tryz.func124
abbrev F.internal_strconv_log10Pow2 : FuncId := 125
theorem C.internal_strconv_log10Pow2 : Tryz.prog.funcs[F.internal_strconv_log10Pow2]? = some Tryz.f125 := Tryz.func125
abbrev F.math_bits_Len64 : FuncId := 126
theorem C.math_bits_Len64 : Tryz.prog.funcs[F.math_bits_Len64]? = some Tryz.f126 := Tryz.func126
abbrev F.internal_strconv_bool2_int : FuncId := 127
theorem C.internal_strconv_bool2_int : Tryz.prog.funcs[F.internal_strconv_bool2_int]? = some Tryz.f127 := Tryz.func127
abbrev F.internal_strconv_isPowerOfTwo : FuncId := 128
theorem C.internal_strconv_isPowerOfTwo : Tryz.prog.funcs[F.internal_strconv_isPowerOfTwo]? = some Tryz.f128 := Tryz.func128
abbrev F.math_bits_TrailingZeros : FuncId := 129
theorem C.math_bits_TrailingZeros : Tryz.prog.funcs[F.math_bits_TrailingZeros]? = some Tryz.f129 := Tryz.func129
abbrev F.laws_eqCmd : FuncId := 130
theorem C.laws_eqCmd : Tryz.prog.funcs[F.laws_eqCmd]? = some Tryz.f130 := Tryz.func130
abbrev F.math_bits_TrailingZeros32 : FuncId := 131
theorem C.math_bits_TrailingZeros32 : Tryz.prog.funcs[F.math_bits_TrailingZeros32]? = some Tryz.f131 := Tryz.func131
abbrev F.math_bits_TrailingZeros64 : FuncId := 132
theorem C.math_bits_TrailingZeros64 : Tryz.prog.funcs[F.math_bits_TrailingZeros64]? = some Tryz.f132 := Tryz.func132
abbrev F.internal_abi_Type_Align : FuncId := 145
theorem C.internal_abi_Type_Align : Tryz.prog.funcs[F.internal_abi_Type_Align]? = some Tryz.f145 := Tryz.func145
abbrev F.internal_runtime_maps_unhashableTypeError_Error : FuncId := 146
theorem C.internal_runtime_maps_unhashableTypeError_Error : Tryz.prog.funcs[F.internal_runtime_maps_unhashableTypeError_Error]? = some Tryz.f146 := Tryz.func146
abbrev F.internal_runtime_maps_unhashableTypeError_RuntimeError : FuncId := 147
theorem C.internal_runtime_maps_unhashableTypeError_RuntimeError : Tryz.prog.funcs[F.internal_runtime_maps_unhashableTypeError_RuntimeError]? = some Tryz.f147 := Tryz.func147
abbrev F.internal_abi_Kind_String : FuncId := 148
theorem C.internal_abi_Kind_String : Tryz.prog.funcs[F.internal_abi_Kind_String]? = some Tryz.f148 := Tryz.func148
abbrev G.uint64pow10 : Nat := 0
abbrev Y.int64 : TypeId := 2
abbrev Y.int : TypeId := 3
abbrev Y.bool : TypeId := 4
abbrev Y.uint8 : TypeId := 5
abbrev Y.abi_BoundsErrorCode : TypeId := 6
abbrev Y.runtime_boundsError : TypeId := 8
abbrev Y.string : TypeId := 9
abbrev Y.runtime_errorString : TypeId := 10
abbrev Y.runtime_plainError : TypeId := 11
abbrev Y.uintptr : TypeId := 12
abbrev Y.runtime_errorAddressString : TypeId := 14
abbrev Y.int32 : TypeId := 21
abbrev Y.sl_laws_Member : TypeId := 22
abbrev Y.sl_laws_Flight : TypeId := 23
abbrev Y.laws_Fleet : TypeId := 25
abbrev Y.sl_impl_Member : TypeId := 28
abbrev Y.sl_impl_Flight : TypeId := 29
abbrev Y.impl_Fleet : TypeId := 31
abbrev Y.sl_impl_File : TypeId := 39
abbrev Y.impl_Disk : TypeId := 41
abbrev Y.sl_impl_Entry : TypeId := 42
abbrev Y.impl_Hard : TypeId := 44
abbrev Y.sl_int : TypeId := 45
abbrev Y.impl_Raft : TypeId := 47
abbrev Y.sl_impl_Rel : TypeId := 48
abbrev Y.impl_Roll : TypeId := 50
abbrev Y.sl_impl_Held : TypeId := 51
abbrev Y.impl_Member : TypeId := 53
abbrev Y.sl_string : TypeId := 54
abbrev Y.sl_laws_File : TypeId := 61
abbrev Y.laws_Disk : TypeId := 63
abbrev Y.sl_laws_Entry : TypeId := 64
abbrev Y.laws_Hard : TypeId := 66
abbrev Y.laws_Raft : TypeId := 68
abbrev Y.sl_laws_Rel : TypeId := 69
abbrev Y.laws_Roll : TypeId := 71
abbrev Y.sl_laws_Held : TypeId := 72
abbrev Y.laws_Member : TypeId := 74
abbrev Y.laws_Flight : TypeId := 77
abbrev Y.impl_Flight : TypeId := 80
abbrev Y.sl_uint8 : TypeId := 81
abbrev Y.laws_Parcel : TypeId := 109
abbrev Y.laws_Held : TypeId := 111
abbrev Y.impl_File : TypeId := 114
abbrev Y.impl_Rel : TypeId := 119
abbrev Y.impl_Parcel : TypeId := 120
abbrev Y.impl_Held : TypeId := 122
abbrev Y.laws_File : TypeId := 136
abbrev Y.laws_Rel : TypeId := 139
abbrev Y.impl_Cmd : TypeId := 143
abbrev Y.impl_Entry : TypeId := 145
abbrev Y.laws_Cmd : TypeId := 160
abbrev Y.laws_Entry : TypeId := 162
abbrev Y.ar24_uint8 : TypeId := 166
abbrev Y.uint64 : TypeId := 167
abbrev Y.ar20_uint64 : TypeId := 177
abbrev Y.uint32 : TypeId := 178
abbrev Y.uint : TypeId := 180
abbrev Y.ar32_uint8 : TypeId := 184
abbrev Y.ar64_uint8 : TypeId := 185
abbrev Y.abi_TFlag : TypeId := 193
abbrev Y.abi_Kind : TypeId := 194
abbrev Y.abi_NameOff : TypeId := 197
abbrev Y.abi_TypeOff : TypeId := 198

end Go.TL
