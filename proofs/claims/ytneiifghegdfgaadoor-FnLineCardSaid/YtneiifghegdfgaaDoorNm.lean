/- The functions by name, and facts of the type table: printed by a program of this work out of the translation. No conditions. -/
import Derived.Test.YtneiifghegdfgaaDoorProg
import Derived.Test.YtneiifghegdfgaaDoorTGo3
import Derived.KernelRfl
namespace Go.TL
set_option linter.unusedSimpArgs false
open Go.Proofs Go.RowKit

@[go_sem] theorem t2_sz : szT Tryd.prog 2 = some 1 := by kernel_rfl
@[go_sem] theorem t2_by : bytesT Tryd.prog 2 = some 8 := by kernel_rfl
@[go_sem] theorem t2_ag : aggT Tryd.prog 2 = some false := by kernel_rfl
@[go_sem] theorem t2_ze : zeroT Tryd.prog 2 = some [.v (.int .i64 0)] := by kernel_rfl
@[go_sem] theorem t2_un : Tryd.prog.underlying 2 = some (.int .i64) := by kernel_rfl
@[go_sem] theorem t2_ec (m : Nat) (k : IntKind) (a b : Int) : eqC Tryd.prog (m + 1) 2 [.int k a] [.int k b] = some (decide (a = b)) := eqC_int t2_un k a b
@[go_sem] theorem t3_sz : szT Tryd.prog 3 = some 1 := by kernel_rfl
@[go_sem] theorem t3_by : bytesT Tryd.prog 3 = some 8 := by kernel_rfl
@[go_sem] theorem t3_ag : aggT Tryd.prog 3 = some false := by kernel_rfl
@[go_sem] theorem t3_ze : zeroT Tryd.prog 3 = some [.v (.int .i64 0)] := by kernel_rfl
@[go_sem] theorem t3_un : Tryd.prog.underlying 3 = some (.int .i64) := by kernel_rfl
@[go_sem] theorem t3_ec (m : Nat) (k : IntKind) (a b : Int) : eqC Tryd.prog (m + 1) 3 [.int k a] [.int k b] = some (decide (a = b)) := eqC_int t3_un k a b
@[go_sem] theorem t4_sz : szT Tryd.prog 4 = some 1 := by kernel_rfl
@[go_sem] theorem t4_by : bytesT Tryd.prog 4 = some 1 := by kernel_rfl
@[go_sem] theorem t4_ag : aggT Tryd.prog 4 = some false := by kernel_rfl
@[go_sem] theorem t4_ze : zeroT Tryd.prog 4 = some [.v (.bool false)] := by kernel_rfl
@[go_sem] theorem t4_un : Tryd.prog.underlying 4 = some .bool := by kernel_rfl
@[go_sem] theorem t4_ec (m : Nat) (a b : Bool) : eqC Tryd.prog (m + 1) 4 [.bool a] [.bool b] = some (a == b) := eqC_bool t4_un a b
@[go_sem] theorem t4_beq (xo yo : Operand) (p q : Prop) [Decidable p] [Decidable q] : binT Tryd.prog .eql 4 xo yo (.v (.bool (decide p))) (.v (.bool (decide q))) = some (.v (.bool (decide (p ↔ q)))) := b_beq xo yo t4_un p q
@[go_sem] theorem t4_bne (xo yo : Operand) (p q : Prop) [Decidable p] [Decidable q] : binT Tryd.prog .neq 4 xo yo (.v (.bool (decide p))) (.v (.bool (decide q))) = some (.v (.bool (decide (¬ (p ↔ q))))) := b_bne xo yo t4_un p q
@[go_sem] theorem t5_sz : szT Tryd.prog 5 = some 1 := by kernel_rfl
@[go_sem] theorem t5_by : bytesT Tryd.prog 5 = some 1 := by kernel_rfl
@[go_sem] theorem t5_ag : aggT Tryd.prog 5 = some false := by kernel_rfl
@[go_sem] theorem t5_ze : zeroT Tryd.prog 5 = some [.v (.int .u8 0)] := by kernel_rfl
@[go_sem] theorem t5_un : Tryd.prog.underlying 5 = some (.int .u8) := by kernel_rfl
@[go_sem] theorem t5_ec (m : Nat) (k : IntKind) (a b : Int) : eqC Tryd.prog (m + 1) 5 [.int k a] [.int k b] = some (decide (a = b)) := eqC_int t5_un k a b
@[go_sem] theorem t9_sz : szT Tryd.prog 9 = some 1 := by kernel_rfl
@[go_sem] theorem t9_by : bytesT Tryd.prog 9 = some 16 := by kernel_rfl
@[go_sem] theorem t9_ag : aggT Tryd.prog 9 = some false := by kernel_rfl
@[go_sem] theorem t9_ze : zeroT Tryd.prog 9 = some [.v (.string ⟨#[]⟩)] := by kernel_rfl
@[go_sem] theorem t9_un : Tryd.prog.underlying 9 = some .string := by kernel_rfl
@[go_sem] theorem t9_ec (m : Nat) (a b : ByteArray) : eqC Tryd.prog (m + 1) 9 [.string a] [.string b] = some (decide (a = b)) := eqC_str t9_un a b
@[go_sem] theorem t9_ni : notInt Tryd.prog 9 = true := by kernel_rfl
@[go_sem] theorem t12_sz : szT Tryd.prog 12 = some 1 := by kernel_rfl
@[go_sem] theorem t12_by : bytesT Tryd.prog 12 = some 8 := by kernel_rfl
@[go_sem] theorem t12_ag : aggT Tryd.prog 12 = some false := by kernel_rfl
@[go_sem] theorem t12_ze : zeroT Tryd.prog 12 = some [.v (.int .u64 0)] := by kernel_rfl
@[go_sem] theorem t12_un : Tryd.prog.underlying 12 = some (.int .u64) := by kernel_rfl
@[go_sem] theorem t12_ec (m : Nat) (k : IntKind) (a b : Int) : eqC Tryd.prog (m + 1) 12 [.int k a] [.int k b] = some (decide (a = b)) := eqC_int t12_un k a b
@[go_sem] theorem t13_sz : szT Tryd.prog 13 = some 2 := by kernel_rfl
@[go_sem] theorem t13_by : bytesT Tryd.prog 13 = some 24 := by kernel_rfl
@[go_sem] theorem t13_ag : aggT Tryd.prog 13 = some true := by kernel_rfl
@[go_sem] theorem t13_ze : zeroT Tryd.prog 13 = some [.v (.string ⟨#[]⟩), .v (.int .u64 0)] := by kernel_rfl
@[go_sem] theorem t13_f0 : fldT Tryd.prog 13 0 = some (0, 1, 9) := by kernel_rfl
@[go_sem] theorem t13_f1 : fldT Tryd.prog 13 1 = some (1, 1, 12) := by kernel_rfl
@[go_sem] theorem t13_fo : fldsOf Tryd.prog 13 = some [(0, 1), (1, 1)] := by kernel_rfl
@[go_sem] theorem t21_sz : szT Tryd.prog 21 = some 1 := by kernel_rfl
@[go_sem] theorem t21_by : bytesT Tryd.prog 21 = some 4 := by kernel_rfl
@[go_sem] theorem t21_ag : aggT Tryd.prog 21 = some false := by kernel_rfl
@[go_sem] theorem t21_ze : zeroT Tryd.prog 21 = some [.v (.int .i32 0)] := by kernel_rfl
@[go_sem] theorem t21_un : Tryd.prog.underlying 21 = some (.int .i32) := by kernel_rfl
@[go_sem] theorem t21_ec (m : Nat) (k : IntKind) (a b : Int) : eqC Tryd.prog (m + 1) 21 [.int k a] [.int k b] = some (decide (a = b)) := eqC_int t21_un k a b
@[go_sem] theorem t22_sz : szT Tryd.prog 22 = some 6 := by kernel_rfl
@[go_sem] theorem t22_by : bytesT Tryd.prog 22 = some 56 := by kernel_rfl
@[go_sem] theorem t22_ag : aggT Tryd.prog 22 = some true := by kernel_rfl
@[go_sem] theorem t22_ze : zeroT Tryd.prog 22 = some [.v (.int .i64 0), .v (.int .i64 0), .v (.int .i64 0), .v (.int .i64 0), .v (.int .i64 0), .v (.string ⟨#[]⟩)] := by kernel_rfl
@[go_sem] theorem t22_f0 : fldT Tryd.prog 22 0 = some (0, 1, 3) := by kernel_rfl
@[go_sem] theorem t22_f1 : fldT Tryd.prog 22 1 = some (1, 1, 3) := by kernel_rfl
@[go_sem] theorem t22_f2 : fldT Tryd.prog 22 2 = some (2, 1, 3) := by kernel_rfl
@[go_sem] theorem t22_f3 : fldT Tryd.prog 22 3 = some (3, 1, 3) := by kernel_rfl
@[go_sem] theorem t22_f4 : fldT Tryd.prog 22 4 = some (4, 1, 3) := by kernel_rfl
@[go_sem] theorem t22_f5 : fldT Tryd.prog 22 5 = some (5, 1, 9) := by kernel_rfl
@[go_sem] theorem t22_fo : fldsOf Tryd.prog 22 = some [(0, 1), (1, 1), (2, 1), (3, 1), (4, 1), (5, 1)] := by kernel_rfl
@[go_sem] theorem t23_sz : szT Tryd.prog 23 = some 6 := by kernel_rfl
@[go_sem] theorem t23_by : bytesT Tryd.prog 23 = some 56 := by kernel_rfl
@[go_sem] theorem t23_ag : aggT Tryd.prog 23 = some true := by kernel_rfl
@[go_sem] theorem t23_ze : zeroT Tryd.prog 23 = some [.v (.int .i64 0), .v (.int .i64 0), .v (.int .i64 0), .v (.int .i64 0), .v (.int .i64 0), .v (.string ⟨#[]⟩)] := by kernel_rfl
@[go_sem] theorem t23_f0 : fldT Tryd.prog 23 0 = some (0, 1, 3) := by kernel_rfl
@[go_sem] theorem t23_f1 : fldT Tryd.prog 23 1 = some (1, 1, 3) := by kernel_rfl
@[go_sem] theorem t23_f2 : fldT Tryd.prog 23 2 = some (2, 1, 3) := by kernel_rfl
@[go_sem] theorem t23_f3 : fldT Tryd.prog 23 3 = some (3, 1, 3) := by kernel_rfl
@[go_sem] theorem t23_f4 : fldT Tryd.prog 23 4 = some (4, 1, 3) := by kernel_rfl
@[go_sem] theorem t23_f5 : fldT Tryd.prog 23 5 = some (5, 1, 9) := by kernel_rfl
@[go_sem] theorem t23_fo : fldsOf Tryd.prog 23 = some [(0, 1), (1, 1), (2, 1), (3, 1), (4, 1), (5, 1)] := by kernel_rfl
@[go_sem] theorem t23_eg : Tryd.prog.eqGuardType Tryd.prog.depth 23 = false := by kernel_rfl
@[go_sem] theorem t23_fl : eqFlds Tryd.prog 23 = some [(3, 0), (3, 1), (3, 2), (3, 3), (3, 4), (9, 5)] := by kernel_rfl
@[go_sem] theorem t23_eq (neg : Bool) (xs ys : List T) : eqAggT Tryd.prog neg 23 (.agg xs) (.agg ys) = (match toVs xs, toVs ys with | some us, some ws => (eqL Tryd.prog 19 [(3, 0), (3, 1), (3, 2), (3, 3), (3, 4), (9, 5)] us ws).map fun b => .v (.bool (if neg = true then !b else b)) | _, _ => none) := eqAgg_t t23_eg t23_ag t23_fl neg xs ys
@[go_sem] theorem t28_sz : szT Tryd.prog 28 = some 1 := by kernel_rfl
@[go_sem] theorem t28_by : bytesT Tryd.prog 28 = some 24 := by kernel_rfl
@[go_sem] theorem t28_ag : aggT Tryd.prog 28 = some false := by kernel_rfl
@[go_sem] theorem t28_ze : zeroT Tryd.prog 28 = some [.v (.slice none 0 0)] := by kernel_rfl
@[go_sem] theorem t28_el : elemT Tryd.prog 28 = some 5 := by kernel_rfl
@[go_sem] theorem t28_un : Tryd.prog.underlying 28 = some (.slice 5) := by kernel_rfl
@[go_sem] theorem t28_ni : notInt Tryd.prog 28 = true := by kernel_rfl
@[go_sem] theorem t28_bs : byteSlice Tryd.prog 28 = true := by kernel_rfl
@[go_sem] theorem t35_sz : szT Tryd.prog 35 = some 1 := by kernel_rfl
@[go_sem] theorem t35_by : bytesT Tryd.prog 35 = some 24 := by kernel_rfl
@[go_sem] theorem t35_ag : aggT Tryd.prog 35 = some false := by kernel_rfl
@[go_sem] theorem t35_ze : zeroT Tryd.prog 35 = some [.v (.slice none 0 0)] := by kernel_rfl
@[go_sem] theorem t35_el : elemT Tryd.prog 35 = some 9 := by kernel_rfl
@[go_sem] theorem t35_un : Tryd.prog.underlying 35 = some (.slice 9) := by kernel_rfl
@[go_sem] theorem t35_ni : notInt Tryd.prog 35 = true := by kernel_rfl
@[go_sem] theorem t60_sz : szT Tryd.prog 60 = some 3 := by kernel_rfl
@[go_sem] theorem t60_by : bytesT Tryd.prog 60 = some 40 := by kernel_rfl
@[go_sem] theorem t60_ag : aggT Tryd.prog 60 = some true := by kernel_rfl
@[go_sem] theorem t60_ze : zeroT Tryd.prog 60 = some [.v (.slice none 0 0), .v (.int .i64 0), .v (.int .i64 0)] := by kernel_rfl
@[go_sem] theorem t60_f0 : fldT Tryd.prog 60 0 = some (0, 1, 28) := by kernel_rfl
@[go_sem] theorem t60_f1 : fldT Tryd.prog 60 1 = some (1, 1, 3) := by kernel_rfl
@[go_sem] theorem t60_f2 : fldT Tryd.prog 60 2 = some (2, 1, 3) := by kernel_rfl
@[go_sem] theorem t60_fo : fldsOf Tryd.prog 60 = some [(0, 1), (1, 1), (2, 1)] := by kernel_rfl
@[go_sem] theorem t61_sz : szT Tryd.prog 61 = some 3 := by kernel_rfl
@[go_sem] theorem t61_by : bytesT Tryd.prog 61 = some 40 := by kernel_rfl
@[go_sem] theorem t61_ag : aggT Tryd.prog 61 = some true := by kernel_rfl
@[go_sem] theorem t61_ze : zeroT Tryd.prog 61 = some [.v (.slice none 0 0), .v (.int .i64 0), .v (.int .i64 0)] := by kernel_rfl
@[go_sem] theorem t61_f0 : fldT Tryd.prog 61 0 = some (0, 1, 28) := by kernel_rfl
@[go_sem] theorem t61_f1 : fldT Tryd.prog 61 1 = some (1, 1, 3) := by kernel_rfl
@[go_sem] theorem t61_f2 : fldT Tryd.prog 61 2 = some (2, 1, 3) := by kernel_rfl
@[go_sem] theorem t61_fo : fldsOf Tryd.prog 61 = some [(0, 1), (1, 1), (2, 1)] := by kernel_rfl
@[go_sem] theorem t70_sz : szT Tryd.prog 70 = some 1 := by kernel_rfl
@[go_sem] theorem t70_by : bytesT Tryd.prog 70 = some 24 := by kernel_rfl
@[go_sem] theorem t70_ag : aggT Tryd.prog 70 = some false := by kernel_rfl
@[go_sem] theorem t70_ze : zeroT Tryd.prog 70 = some [.v (.slice none 0 0)] := by kernel_rfl
@[go_sem] theorem t70_el : elemT Tryd.prog 70 = some 3 := by kernel_rfl
@[go_sem] theorem t70_un : Tryd.prog.underlying 70 = some (.slice 3) := by kernel_rfl
@[go_sem] theorem t70_ni : notInt Tryd.prog 70 = true := by kernel_rfl
@[go_sem] theorem t72_sz : szT Tryd.prog 72 = some 1 := by kernel_rfl
@[go_sem] theorem t72_by : bytesT Tryd.prog 72 = some 8 := by kernel_rfl
@[go_sem] theorem t72_ag : aggT Tryd.prog 72 = some false := by kernel_rfl
@[go_sem] theorem t72_ze : zeroT Tryd.prog 72 = some [.v (.int .u64 0)] := by kernel_rfl
@[go_sem] theorem t72_un : Tryd.prog.underlying 72 = some (.int .u64) := by kernel_rfl
@[go_sem] theorem t72_ec (m : Nat) (k : IntKind) (a b : Int) : eqC Tryd.prog (m + 1) 72 [.int k a] [.int k b] = some (decide (a = b)) := eqC_int t72_un k a b
@[go_sem] theorem t86_sz : szT Tryd.prog 86 = some 2 := by kernel_rfl
@[go_sem] theorem t86_by : bytesT Tryd.prog 86 = some 2 := by kernel_rfl
@[go_sem] theorem t86_ag : aggT Tryd.prog 86 = some true := by kernel_rfl
@[go_sem] theorem t86_ze : zeroT Tryd.prog 86 = some [.v (.int .u8 0), .v (.int .u8 0)] := by kernel_rfl
@[go_sem] theorem t86_f0 : fldT Tryd.prog 86 0 = some (0, 1, 5) := by kernel_rfl
@[go_sem] theorem t86_f1 : fldT Tryd.prog 86 1 = some (1, 1, 5) := by kernel_rfl
@[go_sem] theorem t86_fo : fldsOf Tryd.prog 86 = some [(0, 1), (1, 1)] := by kernel_rfl
@[go_sem] theorem t87_sz : szT Tryd.prog 87 = some 2 := by kernel_rfl
@[go_sem] theorem t87_by : bytesT Tryd.prog 87 = some 2 := by kernel_rfl
@[go_sem] theorem t87_ag : aggT Tryd.prog 87 = some true := by kernel_rfl
@[go_sem] theorem t87_ze : zeroT Tryd.prog 87 = some [.v (.int .u8 0), .v (.int .u8 0)] := by kernel_rfl
@[go_sem] theorem t87_f0 : fldT Tryd.prog 87 0 = some (0, 1, 5) := by kernel_rfl
@[go_sem] theorem t87_f1 : fldT Tryd.prog 87 1 = some (1, 1, 5) := by kernel_rfl
@[go_sem] theorem t87_fo : fldsOf Tryd.prog 87 = some [(0, 1), (1, 1)] := by kernel_rfl
@[go_sem] theorem t87_eg : Tryd.prog.eqGuardType Tryd.prog.depth 87 = false := by kernel_rfl
@[go_sem] theorem t87_fl : eqFlds Tryd.prog 87 = some [(5, 0), (5, 1)] := by kernel_rfl
@[go_sem] theorem t87_eq (neg : Bool) (xs ys : List T) : eqAggT Tryd.prog neg 87 (.agg xs) (.agg ys) = (match toVs xs, toVs ys with | some us, some ws => (eqL Tryd.prog 19 [(5, 0), (5, 1)] us ws).map fun b => .v (.bool (if neg = true then !b else b)) | _, _ => none) := eqAgg_t t87_eg t87_ag t87_fl neg xs ys
@[go_sem] theorem t88_sz : szT Tryd.prog 88 = some 32 := by kernel_rfl
@[go_sem] theorem t88_by : bytesT Tryd.prog 88 = some 32 := by kernel_rfl
@[go_sem] theorem t88_ag : aggT Tryd.prog 88 = some true := by kernel_rfl
@[go_sem] theorem t88_ze : zeroT Tryd.prog 88 = some [.v (.int .u8 0), .v (.int .u8 0), .v (.int .u8 0), .v (.int .u8 0), .v (.int .u8 0), .v (.int .u8 0), .v (.int .u8 0), .v (.int .u8 0), .v (.int .u8 0), .v (.int .u8 0), .v (.int .u8 0), .v (.int .u8 0), .v (.int .u8 0), .v (.int .u8 0), .v (.int .u8 0), .v (.int .u8 0), .v (.int .u8 0), .v (.int .u8 0), .v (.int .u8 0), .v (.int .u8 0), .v (.int .u8 0), .v (.int .u8 0), .v (.int .u8 0), .v (.int .u8 0), .v (.int .u8 0), .v (.int .u8 0), .v (.int .u8 0), .v (.int .u8 0), .v (.int .u8 0), .v (.int .u8 0), .v (.int .u8 0), .v (.int .u8 0)] := by kernel_rfl
@[go_sem] theorem t88_fo : fldsOf Tryd.prog 88 = none := by kernel_rfl
@[go_sem] theorem t88_ea : eArr Tryd.prog 88 = some 2 := by kernel_rfl
@[go_sem] theorem t88_ar : arrT Tryd.prog 88 = some (16, 87) := by kernel_rfl
@[go_sem] theorem t88_el : elemT Tryd.prog 88 = none := by kernel_rfl
@[go_sem] theorem t89_sz : szT Tryd.prog 89 = some 1 := by kernel_rfl
@[go_sem] theorem t89_by : bytesT Tryd.prog 89 = some 4 := by kernel_rfl
@[go_sem] theorem t89_ag : aggT Tryd.prog 89 = some false := by kernel_rfl
@[go_sem] theorem t89_ze : zeroT Tryd.prog 89 = some [.v (.int .u32 0)] := by kernel_rfl
@[go_sem] theorem t89_un : Tryd.prog.underlying 89 = some (.int .u32) := by kernel_rfl
@[go_sem] theorem t89_ec (m : Nat) (k : IntKind) (a b : Int) : eqC Tryd.prog (m + 1) 89 [.int k a] [.int k b] = some (decide (a = b)) := eqC_int t89_un k a b
@[go_sem] theorem t92_sz : szT Tryd.prog 92 = some 1 := by kernel_rfl
@[go_sem] theorem t92_by : bytesT Tryd.prog 92 = some 8 := by kernel_rfl
@[go_sem] theorem t92_ag : aggT Tryd.prog 92 = some false := by kernel_rfl
@[go_sem] theorem t92_ze : zeroT Tryd.prog 92 = some [.v (.int .i64 0)] := by kernel_rfl
@[go_sem] theorem t92_un : Tryd.prog.underlying 92 = some (.int .i64) := by kernel_rfl
@[go_sem] theorem t92_ec (m : Nat) (k : IntKind) (a b : Int) : eqC Tryd.prog (m + 1) 92 [.int k a] [.int k b] = some (decide (a = b)) := eqC_int t92_un k a b
@[go_sem] theorem t100_sz : szT Tryd.prog 100 = some 1 := by kernel_rfl
@[go_sem] theorem t100_by : bytesT Tryd.prog 100 = some 8 := by kernel_rfl
@[go_sem] theorem t100_ag : aggT Tryd.prog 100 = some false := by kernel_rfl
@[go_sem] theorem t100_ze : zeroT Tryd.prog 100 = some [.v (.int .u64 0)] := by kernel_rfl
@[go_sem] theorem t100_un : Tryd.prog.underlying 100 = some (.int .u64) := by kernel_rfl
@[go_sem] theorem t100_ec (m : Nat) (k : IntKind) (a b : Int) : eqC Tryd.prog (m + 1) 100 [.int k a] [.int k b] = some (decide (a = b)) := eqC_int t100_un k a b
@[go_sem] theorem t107_sz : szT Tryd.prog 107 = some 24 := by kernel_rfl
@[go_sem] theorem t107_by : bytesT Tryd.prog 107 = some 24 := by kernel_rfl
@[go_sem] theorem t107_ag : aggT Tryd.prog 107 = some true := by kernel_rfl
@[go_sem] theorem t107_ze : zeroT Tryd.prog 107 = some [.v (.int .u8 0), .v (.int .u8 0), .v (.int .u8 0), .v (.int .u8 0), .v (.int .u8 0), .v (.int .u8 0), .v (.int .u8 0), .v (.int .u8 0), .v (.int .u8 0), .v (.int .u8 0), .v (.int .u8 0), .v (.int .u8 0), .v (.int .u8 0), .v (.int .u8 0), .v (.int .u8 0), .v (.int .u8 0), .v (.int .u8 0), .v (.int .u8 0), .v (.int .u8 0), .v (.int .u8 0), .v (.int .u8 0), .v (.int .u8 0), .v (.int .u8 0), .v (.int .u8 0)] := by kernel_rfl
@[go_sem] theorem t107_fo : fldsOf Tryd.prog 107 = none := by kernel_rfl
@[go_sem] theorem t107_ea : eArr Tryd.prog 107 = some 1 := by kernel_rfl
@[go_sem] theorem t107_ar : arrT Tryd.prog 107 = some (24, 5) := by kernel_rfl
@[go_sem] theorem t107_el : elemT Tryd.prog 107 = none := by kernel_rfl
@[go_sem] theorem t115_sz : szT Tryd.prog 115 = some 1 := by kernel_rfl
@[go_sem] theorem t115_by : bytesT Tryd.prog 115 = some 16 := by kernel_rfl
@[go_sem] theorem t115_ag : aggT Tryd.prog 115 = some true := by kernel_rfl
@[go_sem] theorem t115_ze : zeroT Tryd.prog 115 = some [.v (.string ⟨#[]⟩)] := by kernel_rfl
@[go_sem] theorem t115_f0 : fldT Tryd.prog 115 0 = some (0, 1, 9) := by kernel_rfl
@[go_sem] theorem t115_fo : fldsOf Tryd.prog 115 = some [(0, 1)] := by kernel_rfl
@[go_sem] theorem t116_sz : szT Tryd.prog 116 = some 1 := by kernel_rfl
@[go_sem] theorem t116_by : bytesT Tryd.prog 116 = some 16 := by kernel_rfl
@[go_sem] theorem t116_ag : aggT Tryd.prog 116 = some true := by kernel_rfl
@[go_sem] theorem t116_ze : zeroT Tryd.prog 116 = some [.v (.string ⟨#[]⟩)] := by kernel_rfl
@[go_sem] theorem t116_f0 : fldT Tryd.prog 116 0 = some (0, 1, 9) := by kernel_rfl
@[go_sem] theorem t116_fo : fldsOf Tryd.prog 116 = some [(0, 1)] := by kernel_rfl
@[go_sem] theorem t116_eg : Tryd.prog.eqGuardType Tryd.prog.depth 116 = false := by kernel_rfl
@[go_sem] theorem t116_fl : eqFlds Tryd.prog 116 = some [(9, 0)] := by kernel_rfl
@[go_sem] theorem t116_eq (neg : Bool) (xs ys : List T) : eqAggT Tryd.prog neg 116 (.agg xs) (.agg ys) = (match toVs xs, toVs ys with | some us, some ws => (eqL Tryd.prog 19 [(9, 0)] us ws).map fun b => .v (.bool (if neg = true then !b else b)) | _, _ => none) := eqAgg_t t116_eg t116_ag t116_fl neg xs ys
@[go_sem] theorem t118_sz : szT Tryd.prog 118 = some 20 := by kernel_rfl
@[go_sem] theorem t118_by : bytesT Tryd.prog 118 = some 160 := by kernel_rfl
@[go_sem] theorem t118_ag : aggT Tryd.prog 118 = some true := by kernel_rfl
@[go_sem] theorem t118_ze : zeroT Tryd.prog 118 = some [.v (.int .u64 0), .v (.int .u64 0), .v (.int .u64 0), .v (.int .u64 0), .v (.int .u64 0), .v (.int .u64 0), .v (.int .u64 0), .v (.int .u64 0), .v (.int .u64 0), .v (.int .u64 0), .v (.int .u64 0), .v (.int .u64 0), .v (.int .u64 0), .v (.int .u64 0), .v (.int .u64 0), .v (.int .u64 0), .v (.int .u64 0), .v (.int .u64 0), .v (.int .u64 0), .v (.int .u64 0)] := by kernel_rfl
@[go_sem] theorem t118_fo : fldsOf Tryd.prog 118 = none := by kernel_rfl
@[go_sem] theorem t118_ea : eArr Tryd.prog 118 = some 1 := by kernel_rfl
@[go_sem] theorem t118_ar : arrT Tryd.prog 118 = some (20, 100) := by kernel_rfl
@[go_sem] theorem t118_el : elemT Tryd.prog 118 = none := by kernel_rfl
@[go_sem] theorem t122_sz : szT Tryd.prog 122 = some 32 := by kernel_rfl
@[go_sem] theorem t122_by : bytesT Tryd.prog 122 = some 32 := by kernel_rfl
@[go_sem] theorem t122_ag : aggT Tryd.prog 122 = some true := by kernel_rfl
@[go_sem] theorem t122_ze : zeroT Tryd.prog 122 = some [.v (.int .u8 0), .v (.int .u8 0), .v (.int .u8 0), .v (.int .u8 0), .v (.int .u8 0), .v (.int .u8 0), .v (.int .u8 0), .v (.int .u8 0), .v (.int .u8 0), .v (.int .u8 0), .v (.int .u8 0), .v (.int .u8 0), .v (.int .u8 0), .v (.int .u8 0), .v (.int .u8 0), .v (.int .u8 0), .v (.int .u8 0), .v (.int .u8 0), .v (.int .u8 0), .v (.int .u8 0), .v (.int .u8 0), .v (.int .u8 0), .v (.int .u8 0), .v (.int .u8 0), .v (.int .u8 0), .v (.int .u8 0), .v (.int .u8 0), .v (.int .u8 0), .v (.int .u8 0), .v (.int .u8 0), .v (.int .u8 0), .v (.int .u8 0)] := by kernel_rfl
@[go_sem] theorem t122_fo : fldsOf Tryd.prog 122 = none := by kernel_rfl
@[go_sem] theorem t122_ea : eArr Tryd.prog 122 = some 1 := by kernel_rfl
@[go_sem] theorem t122_ar : arrT Tryd.prog 122 = some (32, 5) := by kernel_rfl
@[go_sem] theorem t122_el : elemT Tryd.prog 122 = none := by kernel_rfl
@[go_sem] theorem t123_sz : szT Tryd.prog 123 = some 64 := by kernel_rfl
@[go_sem] theorem t123_by : bytesT Tryd.prog 123 = some 64 := by kernel_rfl
@[go_sem] theorem t123_ag : aggT Tryd.prog 123 = some true := by kernel_rfl
@[go_sem] theorem t123_ze : zeroT Tryd.prog 123 = some [.v (.int .u8 0), .v (.int .u8 0), .v (.int .u8 0), .v (.int .u8 0), .v (.int .u8 0), .v (.int .u8 0), .v (.int .u8 0), .v (.int .u8 0), .v (.int .u8 0), .v (.int .u8 0), .v (.int .u8 0), .v (.int .u8 0), .v (.int .u8 0), .v (.int .u8 0), .v (.int .u8 0), .v (.int .u8 0), .v (.int .u8 0), .v (.int .u8 0), .v (.int .u8 0), .v (.int .u8 0), .v (.int .u8 0), .v (.int .u8 0), .v (.int .u8 0), .v (.int .u8 0), .v (.int .u8 0), .v (.int .u8 0), .v (.int .u8 0), .v (.int .u8 0), .v (.int .u8 0), .v (.int .u8 0), .v (.int .u8 0), .v (.int .u8 0), .v (.int .u8 0), .v (.int .u8 0), .v (.int .u8 0), .v (.int .u8 0), .v (.int .u8 0), .v (.int .u8 0), .v (.int .u8 0), .v (.int .u8 0), .v (.int .u8 0), .v (.int .u8 0), .v (.int .u8 0), .v (.int .u8 0), .v (.int .u8 0), .v (.int .u8 0), .v (.int .u8 0), .v (.int .u8 0), .v (.int .u8 0), .v (.int .u8 0), .v (.int .u8 0), .v (.int .u8 0), .v (.int .u8 0), .v (.int .u8 0), .v (.int .u8 0), .v (.int .u8 0), .v (.int .u8 0), .v (.int .u8 0), .v (.int .u8 0), .v (.int .u8 0), .v (.int .u8 0), .v (.int .u8 0), .v (.int .u8 0), .v (.int .u8 0)] := by kernel_rfl
@[go_sem] theorem t123_fo : fldsOf Tryd.prog 123 = none := by kernel_rfl
@[go_sem] theorem t123_ea : eArr Tryd.prog 123 = some 1 := by kernel_rfl
@[go_sem] theorem t123_ar : arrT Tryd.prog 123 = some (64, 5) := by kernel_rfl
@[go_sem] theorem t123_el : elemT Tryd.prog 123 = none := by kernel_rfl
abbrev F.laws_FnExactParseDeed : FuncId := 3
theorem C.laws_FnExactParseDeed : Tryd.prog.funcs[F.laws_FnExactParseDeed]? = some Tryd.f3 := Tryd.func3
abbrev F.laws_FnLine : FuncId := 4
theorem C.laws_FnLine : Tryd.prog.funcs[F.laws_FnLine]? = some Tryd.f4 := Tryd.func4
abbrev F.spec_ParseDeed : FuncId := 5
theorem C.spec_ParseDeed : Tryd.prog.funcs[F.spec_ParseDeed]? = some Tryd.f5 := Tryd.func5
abbrev F.impl_ParseDeed : FuncId := 6
theorem C.impl_ParseDeed : Tryd.prog.funcs[F.impl_ParseDeed]? = some Tryd.f6 := Tryd.func6
abbrev F.laws_eqDeed : FuncId := 7
theorem C.laws_eqDeed : Tryd.prog.funcs[F.laws_eqDeed]? = some Tryd.f7 := Tryd.func7
abbrev F.laws_big : FuncId := 8
theorem C.laws_big : Tryd.prog.funcs[F.laws_big]? = some Tryd.f8 := Tryd.func8
abbrev F.spec_DrawDeedLine : FuncId := 9
theorem C.spec_DrawDeedLine : Tryd.prog.funcs[F.spec_DrawDeedLine]? = some Tryd.f9 := Tryd.func9
abbrev F.impl_DeedLine : FuncId := 10
theorem C.impl_DeedLine : Tryd.prog.funcs[F.impl_DeedLine]? = some Tryd.f10 := Tryd.func10
abbrev F.spec_DeedOk : FuncId := 11
theorem C.spec_DeedOk : Tryd.prog.funcs[F.spec_DeedOk]? = some Tryd.f11 := Tryd.func11
abbrev F.spec_DrawParseDeed : FuncId := 12
theorem C.spec_DrawParseDeed : Tryd.prog.funcs[F.spec_DrawParseDeed]? = some Tryd.f12 := Tryd.func12
abbrev F.impl_DeedOk : FuncId := 13
theorem C.impl_DeedOk : Tryd.prog.funcs[F.impl_DeedOk]? = some Tryd.f13 := Tryd.func13
abbrev F.spec_l12Words : FuncId := 14
theorem C.spec_l12Words : Tryd.prog.funcs[F.spec_l12Words]? = some Tryd.f14 := Tryd.func14
abbrev F.spec_l17Name : FuncId := 15
theorem C.spec_l17Name : Tryd.prog.funcs[F.spec_l17Name]? = some Tryd.f15 := Tryd.func15
abbrev F.spec_l17Form : FuncId := 16
theorem C.spec_l17Form : Tryd.prog.funcs[F.spec_l17Form]? = some Tryd.f16 := Tryd.func16
abbrev F.spec_l17Field : FuncId := 17
theorem C.spec_l17Field : Tryd.prog.funcs[F.spec_l17Field]? = some Tryd.f17 := Tryd.func17
abbrev F.strings_Split : FuncId := 18
theorem C.strings_Split : Tryd.prog.funcs[F.strings_Split]? = some Tryd.f18 := Tryd.func18
abbrev F.slices_Index_string : FuncId := 19
theorem C.slices_Index_string : Tryd.prog.funcs[F.slices_Index_string]? = some Tryd.f19 := Tryd.func19
abbrev F.impl_deedWords : FuncId := 20
theorem C.impl_deedWords : Tryd.prog.funcs[F.impl_deedWords]? = some Tryd.f20 := Tryd.func20
abbrev F.impl_deedForm : FuncId := 21
theorem C.impl_deedForm : Tryd.prog.funcs[F.impl_deedForm]? = some Tryd.f21 := Tryd.func21
abbrev F.impl_Deed_setField : FuncId := 22
theorem C.impl_Deed_setField : Tryd.prog.funcs[F.impl_Deed_setField]? = some Tryd.f22 := Tryd.func22
abbrev F.spec_l17DrawDeed : FuncId := 23
theorem C.spec_l17DrawDeed : Tryd.prog.funcs[F.spec_l17DrawDeed]? = some Tryd.f23 := Tryd.func23
abbrev F.spec_l1New : FuncId := 24
theorem C.spec_l1New : Tryd.prog.funcs[F.spec_l1New]? = some Tryd.f24 := Tryd.func24
abbrev F.impl_fieldText : FuncId := 25
theorem C.impl_fieldText : Tryd.prog.funcs[F.impl_fieldText]? = some Tryd.f25 := Tryd.func25
abbrev F.spec_l1In : FuncId := 26
theorem C.spec_l1In : Tryd.prog.funcs[F.spec_l1In]? = some Tryd.f26 := Tryd.func26
abbrev F.spec_l17DrawLine : FuncId := 27
theorem C.spec_l17DrawLine : Tryd.prog.funcs[F.spec_l17DrawLine]? = some Tryd.f27 := Tryd.func27
abbrev F.spec_l1Once : FuncId := 28
theorem C.spec_l1Once : Tryd.prog.funcs[F.spec_l1Once]? = some Tryd.f28 := Tryd.func28
abbrev F.spec_l1Below : FuncId := 29
theorem C.spec_l1Below : Tryd.prog.funcs[F.spec_l1Below]? = some Tryd.f29 := Tryd.func29
abbrev F.impl_within : FuncId := 30
theorem C.impl_within : Tryd.prog.funcs[F.impl_within]? = some Tryd.f30 := Tryd.func30
abbrev F.impl_ofMail : FuncId := 31
theorem C.impl_ofMail : Tryd.prog.funcs[F.impl_ofMail]? = some Tryd.f31 := Tryd.func31
abbrev F.impl_isNode : FuncId := 32
theorem C.impl_isNode : Tryd.prog.funcs[F.impl_isNode]? = some Tryd.f32 := Tryd.func32
abbrev F.impl_isRelease : FuncId := 33
theorem C.impl_isRelease : Tryd.prog.funcs[F.impl_isRelease]? = some Tryd.f33 := Tryd.func33
abbrev F.impl_isSize : FuncId := 34
theorem C.impl_isSize : Tryd.prog.funcs[F.impl_isSize]? = some Tryd.f34 := Tryd.func34
abbrev F.spec_FromHex : FuncId := 35
theorem C.spec_FromHex : Tryd.prog.funcs[F.spec_FromHex]? = some Tryd.f35 := Tryd.func35
abbrev F.spec_NumOf : FuncId := 36
theorem C.spec_NumOf : Tryd.prog.funcs[F.spec_NumOf]? = some Tryd.f36 := Tryd.func36
abbrev F.strings_genSplit : FuncId := 37
theorem C.strings_genSplit : Tryd.prog.funcs[F.strings_genSplit]? = some Tryd.f37 := Tryd.func37
abbrev F.impl_FromHex : FuncId := 38
theorem C.impl_FromHex : Tryd.prog.funcs[F.impl_FromHex]? = some Tryd.f38 := Tryd.func38
abbrev F.impl_NumOf : FuncId := 39
theorem C.impl_NumOf : Tryd.prog.funcs[F.impl_NumOf]? = some Tryd.f39 := Tryd.func39
abbrev F.spec_l15DrawText : FuncId := 40
theorem C.spec_l15DrawText : Tryd.prog.funcs[F.spec_l15DrawText]? = some Tryd.f40 := Tryd.func40
abbrev F.spec_l15SpoilDeed : FuncId := 41
theorem C.spec_l15SpoilDeed : Tryd.prog.funcs[F.spec_l15SpoilDeed]? = some Tryd.f41 := Tryd.func41
abbrev F.impl_TextOf : FuncId := 42
theorem C.impl_TextOf : Tryd.prog.funcs[F.impl_TextOf]? = some Tryd.f42 := Tryd.func42
abbrev F.impl_HexOf : FuncId := 43
theorem C.impl_HexOf : Tryd.prog.funcs[F.impl_HexOf]? = some Tryd.f43 := Tryd.func43
abbrev F.spec_DeedLine : FuncId := 44
theorem C.spec_DeedLine : Tryd.prog.funcs[F.spec_DeedLine]? = some Tryd.f44 := Tryd.func44
abbrev F.spec_l12Dent : FuncId := 45
theorem C.spec_l12Dent : Tryd.prog.funcs[F.spec_l12Dent]? = some Tryd.f45 := Tryd.func45
abbrev F.spec_l1Pick : FuncId := 46
theorem C.spec_l1Pick : Tryd.prog.funcs[F.spec_l1Pick]? = some Tryd.f46 := Tryd.func46
abbrev F.spec_l1Byte : FuncId := 47
theorem C.spec_l1Byte : Tryd.prog.funcs[F.spec_l1Byte]? = some Tryd.f47 := Tryd.func47
abbrev F.spec_l2Value : FuncId := 48
theorem C.spec_l2Value : Tryd.prog.funcs[F.spec_l2Value]? = some Tryd.f48 := Tryd.func48
abbrev F.spec_TextOf : FuncId := 49
theorem C.spec_TextOf : Tryd.prog.funcs[F.spec_TextOf]? = some Tryd.f49 := Tryd.func49
abbrev F.strings_explode : FuncId := 50
theorem C.strings_explode : Tryd.prog.funcs[F.strings_explode]? = some Tryd.f50 := Tryd.func50
abbrev F.strings_Count : FuncId := 51
theorem C.strings_Count : Tryd.prog.funcs[F.strings_Count]? = some Tryd.f51 := Tryd.func51
abbrev F.strings_Index : FuncId := 52
theorem C.strings_Index : Tryd.prog.funcs[F.strings_Index]? = some Tryd.f52 := Tryd.func52
abbrev F.impl_hexValue : FuncId := 53
theorem C.impl_hexValue : Tryd.prog.funcs[F.impl_hexValue]? = some Tryd.f53 := Tryd.func53
abbrev F.impl_readNumber : FuncId := 54
theorem C.impl_readNumber : Tryd.prog.funcs[F.impl_readNumber]? = some Tryd.f54 := Tryd.func54
abbrev F.spec_l1PickInt : FuncId := 55
theorem C.spec_l1PickInt : Tryd.prog.funcs[F.spec_l1PickInt]? = some Tryd.f55 := Tryd.func55
abbrev F.impl_digits : FuncId := 56
theorem C.impl_digits : Tryd.prog.funcs[F.impl_digits]? = some Tryd.f56 := Tryd.func56
abbrev F.spec_HexOf : FuncId := 57
theorem C.spec_HexOf : Tryd.prog.funcs[F.spec_HexOf]? = some Tryd.f57 := Tryd.func57
abbrev F.spec_l1Min : FuncId := 58
theorem C.spec_l1Min : Tryd.prog.funcs[F.spec_l1Min]? = some Tryd.f58 := Tryd.func58
abbrev F.spec_l2Digit : FuncId := 59
theorem C.spec_l2Digit : Tryd.prog.funcs[F.spec_l2Digit]? = some Tryd.f59 := Tryd.func59
abbrev F.unicode_utf8_RuneCountInString : FuncId := 60
theorem C.unicode_utf8_RuneCountInString : Tryd.prog.funcs[F.unicode_utf8_RuneCountInString]? = some Tryd.f60 := Tryd.func60
abbrev F.unicode_utf8_DecodeRuneInString : FuncId := 61
theorem C.unicode_utf8_DecodeRuneInString : Tryd.prog.funcs[F.unicode_utf8_DecodeRuneInString]? = some Tryd.f61 := Tryd.func61
abbrev F.internal_bytealg_CountString : FuncId := 62
theorem C.internal_bytealg_CountString : Tryd.prog.funcs[F.internal_bytealg_CountString]? = some Tryd.f62 := Tryd.func62
abbrev F.internal_stringslite_Index : FuncId := 63
theorem C.internal_stringslite_Index : Tryd.prog.funcs[F.internal_stringslite_Index]? = some Tryd.f63 := Tryd.func63
abbrev F.strconv_Atoi : FuncId := 64
theorem C.strconv_Atoi : Tryd.prog.funcs[F.strconv_Atoi]? = some Tryd.f64 := Tryd.func64
abbrev F.strings_TrimPrefix : FuncId := 65
theorem C.strings_TrimPrefix : Tryd.prog.funcs[F.strings_TrimPrefix]? = some Tryd.f65 := Tryd.func65
abbrev F.strconv_Itoa : FuncId := 66
theorem C.strconv_Itoa : Tryd.prog.funcs[F.strconv_Itoa]? = some Tryd.f66 := Tryd.func66
abbrev F.unicode_utf8_decodeRuneInStringSlow : FuncId := 67
theorem C.unicode_utf8_decodeRuneInStringSlow : Tryd.prog.funcs[F.unicode_utf8_decodeRuneInStringSlow]? = some Tryd.f67 := Tryd.func67
abbrev F.internal_stringslite_IndexByte : FuncId := 68
theorem C.internal_stringslite_IndexByte : Tryd.prog.funcs[F.internal_stringslite_IndexByte]? = some Tryd.f68 := Tryd.func68
abbrev F.internal_bytealg_IndexString : FuncId := 69
theorem C.internal_bytealg_IndexString : Tryd.prog.funcs[F.internal_bytealg_IndexString]? = some Tryd.f69 := Tryd.func69
abbrev F.internal_bytealg_Cutover : FuncId := 70
theorem C.internal_bytealg_Cutover : Tryd.prog.funcs[F.internal_bytealg_Cutover]? = some Tryd.f70 := Tryd.func70
abbrev F.internal_bytealg_IndexRabinKarp_string : FuncId := 71
theorem C.internal_bytealg_IndexRabinKarp_string : Tryd.prog.funcs[F.internal_bytealg_IndexRabinKarp_string]? = some Tryd.f71 := Tryd.func71
abbrev F.internal_strconv_Atoi : FuncId := 72
theorem C.internal_strconv_Atoi : Tryd.prog.funcs[F.internal_strconv_Atoi]? = some Tryd.f72 := Tryd.func72
abbrev F.strconv_toError : FuncId := 73
theorem C.strconv_toError : Tryd.prog.funcs[F.strconv_toError]? = some Tryd.f73 := Tryd.func73
abbrev F.internal_stringslite_TrimPrefix : FuncId := 74
theorem C.internal_stringslite_TrimPrefix : Tryd.prog.funcs[F.internal_stringslite_TrimPrefix]? = some Tryd.f74 := Tryd.func74
abbrev F.internal_strconv_Itoa : FuncId := 75
theorem C.internal_strconv_Itoa : Tryd.prog.funcs[F.internal_strconv_Itoa]? = some Tryd.f75 := Tryd.func75
abbrev F.internal_bytealg_IndexByteString : FuncId := 76
theorem C.internal_bytealg_IndexByteString : Tryd.prog.funcs[F.internal_bytealg_IndexByteString]? = some Tryd.f76 := Tryd.func76
abbrev F.internal_bytealg_hashStr_string : FuncId := 77
theorem C.internal_bytealg_hashStr_string : Tryd.prog.funcs[F.internal_bytealg_hashStr_string]? = some Tryd.f77 := Tryd.func77
abbrev F.internal_strconv_ParseInt : FuncId := 78
theorem C.internal_strconv_ParseInt : Tryd.prog.funcs[F.internal_strconv_ParseInt]? = some Tryd.f78 := Tryd.func78
abbrev F.strconv_syntaxError : FuncId := 79
theorem C.strconv_syntaxError : Tryd.prog.funcs[F.strconv_syntaxError]? = some Tryd.f79 := Tryd.func79
abbrev F.strconv_rangeError : FuncId := 80
theorem C.strconv_rangeError : Tryd.prog.funcs[F.strconv_rangeError]? = some Tryd.f80 := Tryd.func80
abbrev F.strconv_baseError : FuncId := 81
theorem C.strconv_baseError : Tryd.prog.funcs[F.strconv_baseError]? = some Tryd.f81 := Tryd.func81
abbrev F.strconv_bitSizeError : FuncId := 82
theorem C.strconv_bitSizeError : Tryd.prog.funcs[F.strconv_bitSizeError]? = some Tryd.f82 := Tryd.func82
abbrev F.internal_stringslite_HasPrefix : FuncId := 83
theorem C.internal_stringslite_HasPrefix : Tryd.prog.funcs[F.internal_stringslite_HasPrefix]? = some Tryd.f83 := Tryd.func83
abbrev F.internal_strconv_FormatInt : FuncId := 84
theorem C.internal_strconv_FormatInt : Tryd.prog.funcs[F.internal_strconv_FormatInt]? = some Tryd.f84 := Tryd.func84
abbrev F.internal_strconv_ParseUint : FuncId := 85
theorem C.internal_strconv_ParseUint : Tryd.prog.funcs[F.internal_strconv_ParseUint]? = some Tryd.f85 := Tryd.func85
abbrev F.internal_stringslite_Clone : FuncId := 86
theorem C.internal_stringslite_Clone : Tryd.prog.funcs[F.internal_stringslite_Clone]? = some Tryd.f86 := Tryd.func86
abbrev F.internal_strconv_small : FuncId := 88
theorem C.internal_strconv_small : Tryd.prog.funcs[F.internal_strconv_small]? = some Tryd.f88 := Tryd.func88
abbrev F.internal_strconv_numDigits : FuncId := 89
theorem C.internal_strconv_numDigits : Tryd.prog.funcs[F.internal_strconv_numDigits]? = some Tryd.f89 := Tryd.func89
abbrev F.internal_strconv_formatBase10 : FuncId := 90
theorem C.internal_strconv_formatBase10 : Tryd.prog.funcs[F.internal_strconv_formatBase10]? = some Tryd.f90 := Tryd.func90
abbrev F.internal_strconv_formatBits : FuncId := 91
theorem C.internal_strconv_formatBits : Tryd.prog.funcs[F.internal_strconv_formatBits]? = some Tryd.f91 := Tryd.func91
abbrev F.internal_strconv_lower : FuncId := 92
theorem C.internal_strconv_lower : Tryd.prog.funcs[F.internal_strconv_lower]? = some Tryd.f92 := Tryd.func92
abbrev F.internal_strconv_underscoreOK : FuncId := 93
theorem C.internal_strconv_underscoreOK : Tryd.prog.funcs[F.internal_strconv_underscoreOK]? = some Tryd.f93 := Tryd.func93
abbrev F.internal_strconv_log10Pow2 : FuncId := 94
theorem C.internal_strconv_log10Pow2 : Tryd.prog.funcs[F.internal_strconv_log10Pow2]? = some Tryd.f94 := Tryd.func94
abbrev F.math_bits_Len64 : FuncId := 95
theorem C.math_bits_Len64 : Tryd.prog.funcs[F.math_bits_Len64]? = some Tryd.f95 := Tryd.func95
abbrev F.internal_strconv_bool2_int : FuncId := 96
theorem C.internal_strconv_bool2_int : Tryd.prog.funcs[F.internal_strconv_bool2_int]? = some Tryd.f96 := Tryd.func96
abbrev F.internal_strconv_isPowerOfTwo : FuncId := 97
theorem C.internal_strconv_isPowerOfTwo : Tryd.prog.funcs[F.internal_strconv_isPowerOfTwo]? = some Tryd.f97 := Tryd.func97
abbrev F.math_bits_TrailingZeros : FuncId := 98
theorem C.math_bits_TrailingZeros : Tryd.prog.funcs[F.math_bits_TrailingZeros]? = some Tryd.f98 := Tryd.func98
abbrev F.math_bits_TrailingZeros32 : FuncId := 99
theorem C.math_bits_TrailingZeros32 : Tryd.prog.funcs[F.math_bits_TrailingZeros32]? = some Tryd.f99 := Tryd.func99
abbrev F.math_bits_TrailingZeros64 : FuncId := 100
theorem C.math_bits_TrailingZeros64 : Tryd.prog.funcs[F.math_bits_TrailingZeros64]? = some Tryd.f100 := Tryd.func100
abbrev F.internal_abi_Type_Align : FuncId := 113
theorem C.internal_abi_Type_Align : Tryd.prog.funcs[F.internal_abi_Type_Align]? = some Tryd.f113 := Tryd.func113
abbrev F.internal_runtime_maps_unhashableTypeError_Error : FuncId := 114
theorem C.internal_runtime_maps_unhashableTypeError_Error : Tryd.prog.funcs[F.internal_runtime_maps_unhashableTypeError_Error]? = some Tryd.f114 := Tryd.func114
abbrev F.internal_runtime_maps_unhashableTypeError_RuntimeError : FuncId := 115
theorem C.internal_runtime_maps_unhashableTypeError_RuntimeError : Tryd.prog.funcs[F.internal_runtime_maps_unhashableTypeError_RuntimeError]? = some Tryd.f115 := Tryd.func115
abbrev F.internal_strconv_Error_Error : FuncId := 116
theorem C.internal_strconv_Error_Error : Tryd.prog.funcs[F.internal_strconv_Error_Error]? = some Tryd.f116 := Tryd.func116
abbrev F.strconv_NumError_Error : FuncId := 117
theorem C.strconv_NumError_Error : Tryd.prog.funcs[F.strconv_NumError_Error]? = some Tryd.f117 := Tryd.func117
abbrev F.internal_abi_Kind_String : FuncId := 119
theorem C.internal_abi_Kind_String : Tryd.prog.funcs[F.internal_abi_Kind_String]? = some Tryd.f119 := Tryd.func119
abbrev G.ErrSyntax : Nat := 3
abbrev G.ErrRange : Nat := 4
abbrev G.uint64pow10 : Nat := 5
abbrev Y.error : TypeId := 79
abbrev Y.errorI : TypeId := 78
abbrev Y.ptr_errorString : TypeId := 114
abbrev Y.int64 : TypeId := 2
abbrev Y.int : TypeId := 3
abbrev Y.bool : TypeId := 4
abbrev Y.uint8 : TypeId := 5
abbrev Y.abi_BoundsErrorCode : TypeId := 6
abbrev Y.runtime_boundsError : TypeId := 8
abbrev Y.string : TypeId := 9
abbrev Y.runtime_errorString : TypeId := 10
abbrev Y.runtime_plainError : TypeId := 11
abbrev Y.uintptr : TypeId := 12
abbrev Y.runtime_errorAddressString : TypeId := 14
abbrev Y.int32 : TypeId := 21
abbrev Y.impl_Deed : TypeId := 23
abbrev Y.sl_uint8 : TypeId := 28
abbrev Y.sl_string : TypeId := 35
abbrev Y.spec_l1Cur : TypeId := 61
abbrev Y.sl_int : TypeId := 70
abbrev Y.uint : TypeId := 72
abbrev Y.utf8_acceptRange : TypeId := 87
abbrev Y.ar16_utf8_acceptRange : TypeId := 88
abbrev Y.uint32 : TypeId := 89
abbrev Y.strconv_Error : TypeId := 92
abbrev Y.uint64 : TypeId := 100
abbrev Y.ar24_uint8 : TypeId := 107
abbrev Y.errors_errorString : TypeId := 116
abbrev Y.ar20_uint64 : TypeId := 118
abbrev Y.ar32_uint8 : TypeId := 122
abbrev Y.ar64_uint8 : TypeId := 123
abbrev Y.abi_TFlag : TypeId := 131
abbrev Y.abi_Kind : TypeId := 132
abbrev Y.abi_NameOff : TypeId := 134
abbrev Y.abi_TypeOff : TypeId := 135

end Go.TL
