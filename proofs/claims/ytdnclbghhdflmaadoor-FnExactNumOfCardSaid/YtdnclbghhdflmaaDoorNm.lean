/- The functions by name, and facts of the type table: printed by a program of this work out of the translation. No conditions. -/
import Derived.Test.YtdnclbghhdflmaaDoorProg
import Derived.Test.YtdnclbghhdflmaaDoorTGo3
import Derived.KernelRfl
namespace Go.TL
open Go.Proofs Go.RowKit

@[go_sem] theorem t2_sz : szT Tryd.prog 2 = some 1 := by kernel_rfl
@[go_sem] theorem t2_by : bytesT Tryd.prog 2 = some 8 := by kernel_rfl
@[go_sem] theorem t2_ag : aggT Tryd.prog 2 = some false := by kernel_rfl
@[go_sem] theorem t2_ze : zeroT Tryd.prog 2 = some [.v (.int .i64 0)] := by kernel_rfl
@[go_sem] theorem t2_un : Tryd.prog.underlying 2 = some (.int .i64) := by kernel_rfl
@[go_sem] theorem t2_ec (m : Nat) (k : IntKind) (a b : Int) : eqC Tryd.prog (m + 1) 2 [.int k a] [.int k b] = some (decide (a = b)) := eqC_int t2_un k a b
@[go_sem] theorem t3_sz : szT Tryd.prog 3 = some 1 := by kernel_rfl
@[go_sem] theorem t3_by : bytesT Tryd.prog 3 = some 8 := by kernel_rfl
@[go_sem] theorem t3_ag : aggT Tryd.prog 3 = some false := by kernel_rfl
@[go_sem] theorem t3_ze : zeroT Tryd.prog 3 = some [.v (.int .i64 0)] := by kernel_rfl
@[go_sem] theorem t3_un : Tryd.prog.underlying 3 = some (.int .i64) := by kernel_rfl
@[go_sem] theorem t3_ec (m : Nat) (k : IntKind) (a b : Int) : eqC Tryd.prog (m + 1) 3 [.int k a] [.int k b] = some (decide (a = b)) := eqC_int t3_un k a b
@[go_sem] theorem t4_sz : szT Tryd.prog 4 = some 1 := by kernel_rfl
@[go_sem] theorem t4_by : bytesT Tryd.prog 4 = some 1 := by kernel_rfl
@[go_sem] theorem t4_ag : aggT Tryd.prog 4 = some false := by kernel_rfl
@[go_sem] theorem t4_ze : zeroT Tryd.prog 4 = some [.v (.bool false)] := by kernel_rfl
@[go_sem] theorem t4_un : Tryd.prog.underlying 4 = some .bool := by kernel_rfl
@[go_sem] theorem t4_ec (m : Nat) (a b : Bool) : eqC Tryd.prog (m + 1) 4 [.bool a] [.bool b] = some (a == b) := eqC_bool t4_un a b
@[go_sem] theorem t4_beq (xo yo : Operand) (p q : Prop) [Decidable p] [Decidable q] : binT Tryd.prog .eql 4 xo yo (.v (.bool (decide p))) (.v (.bool (decide q))) = some (.v (.bool (decide (p ↔ q)))) := b_beq xo yo t4_un p q
@[go_sem] theorem t4_bne (xo yo : Operand) (p q : Prop) [Decidable p] [Decidable q] : binT Tryd.prog .neq 4 xo yo (.v (.bool (decide p))) (.v (.bool (decide q))) = some (.v (.bool (decide (¬ (p ↔ q))))) := b_bne xo yo t4_un p q
@[go_sem] theorem t5_sz : szT Tryd.prog 5 = some 1 := by kernel_rfl
@[go_sem] theorem t5_by : bytesT Tryd.prog 5 = some 1 := by kernel_rfl
@[go_sem] theorem t5_ag : aggT Tryd.prog 5 = some false := by kernel_rfl
@[go_sem] theorem t5_ze : zeroT Tryd.prog 5 = some [.v (.int .u8 0)] := by kernel_rfl
@[go_sem] theorem t5_un : Tryd.prog.underlying 5 = some (.int .u8) := by kernel_rfl
@[go_sem] theorem t5_ec (m : Nat) (k : IntKind) (a b : Int) : eqC Tryd.prog (m + 1) 5 [.int k a] [.int k b] = some (decide (a = b)) := eqC_int t5_un k a b
@[go_sem] theorem t9_sz : szT Tryd.prog 9 = some 1 := by kernel_rfl
@[go_sem] theorem t9_by : bytesT Tryd.prog 9 = some 16 := by kernel_rfl
@[go_sem] theorem t9_ag : aggT Tryd.prog 9 = some false := by kernel_rfl
@[go_sem] theorem t9_ze : zeroT Tryd.prog 9 = some [.v (.string ⟨#[]⟩)] := by kernel_rfl
@[go_sem] theorem t9_un : Tryd.prog.underlying 9 = some .string := by kernel_rfl
@[go_sem] theorem t9_ec (m : Nat) (a b : ByteArray) : eqC Tryd.prog (m + 1) 9 [.string a] [.string b] = some (decide (a = b)) := eqC_str t9_un a b
@[go_sem] theorem t9_ni : notInt Tryd.prog 9 = true := by kernel_rfl
@[go_sem] theorem t12_sz : szT Tryd.prog 12 = some 1 := by kernel_rfl
@[go_sem] theorem t12_by : bytesT Tryd.prog 12 = some 8 := by kernel_rfl
@[go_sem] theorem t12_ag : aggT Tryd.prog 12 = some false := by kernel_rfl
@[go_sem] theorem t12_ze : zeroT Tryd.prog 12 = some [.v (.int .u64 0)] := by kernel_rfl
@[go_sem] theorem t12_un : Tryd.prog.underlying 12 = some (.int .u64) := by kernel_rfl
@[go_sem] theorem t12_ec (m : Nat) (k : IntKind) (a b : Int) : eqC Tryd.prog (m + 1) 12 [.int k a] [.int k b] = some (decide (a = b)) := eqC_int t12_un k a b
@[go_sem] theorem t13_sz : szT Tryd.prog 13 = some 2 := by kernel_rfl
@[go_sem] theorem t13_by : bytesT Tryd.prog 13 = some 24 := by kernel_rfl
@[go_sem] theorem t13_ag : aggT Tryd.prog 13 = some true := by kernel_rfl
@[go_sem] theorem t13_ze : zeroT Tryd.prog 13 = some [.v (.string ⟨#[]⟩), .v (.int .u64 0)] := by kernel_rfl
@[go_sem] theorem t13_f0 : fldT Tryd.prog 13 0 = some (0, 1, 9) := by kernel_rfl
@[go_sem] theorem t13_f1 : fldT Tryd.prog 13 1 = some (1, 1, 12) := by kernel_rfl
@[go_sem] theorem t13_fo : fldsOf Tryd.prog 13 = some [(0, 1), (1, 1)] := by kernel_rfl
@[go_sem] theorem t21_sz : szT Tryd.prog 21 = some 1 := by kernel_rfl
@[go_sem] theorem t21_by : bytesT Tryd.prog 21 = some 4 := by kernel_rfl
@[go_sem] theorem t21_ag : aggT Tryd.prog 21 = some false := by kernel_rfl
@[go_sem] theorem t21_ze : zeroT Tryd.prog 21 = some [.v (.int .i32 0)] := by kernel_rfl
@[go_sem] theorem t21_un : Tryd.prog.underlying 21 = some (.int .i32) := by kernel_rfl
@[go_sem] theorem t21_ec (m : Nat) (k : IntKind) (a b : Int) : eqC Tryd.prog (m + 1) 21 [.int k a] [.int k b] = some (decide (a = b)) := eqC_int t21_un k a b
@[go_sem] theorem t24_sz : szT Tryd.prog 24 = some 6 := by kernel_rfl
@[go_sem] theorem t24_by : bytesT Tryd.prog 24 = some 56 := by kernel_rfl
@[go_sem] theorem t24_ag : aggT Tryd.prog 24 = some true := by kernel_rfl
@[go_sem] theorem t24_ze : zeroT Tryd.prog 24 = some [.v (.int .i64 0), .v (.int .i64 0), .v (.int .i64 0), .v (.int .i64 0), .v (.int .i64 0), .v (.string ⟨#[]⟩)] := by kernel_rfl
@[go_sem] theorem t24_f0 : fldT Tryd.prog 24 0 = some (0, 1, 3) := by kernel_rfl
@[go_sem] theorem t24_f1 : fldT Tryd.prog 24 1 = some (1, 1, 3) := by kernel_rfl
@[go_sem] theorem t24_f2 : fldT Tryd.prog 24 2 = some (2, 1, 3) := by kernel_rfl
@[go_sem] theorem t24_f3 : fldT Tryd.prog 24 3 = some (3, 1, 3) := by kernel_rfl
@[go_sem] theorem t24_f4 : fldT Tryd.prog 24 4 = some (4, 1, 3) := by kernel_rfl
@[go_sem] theorem t24_f5 : fldT Tryd.prog 24 5 = some (5, 1, 9) := by kernel_rfl
@[go_sem] theorem t24_fo : fldsOf Tryd.prog 24 = some [(0, 1), (1, 1), (2, 1), (3, 1), (4, 1), (5, 1)] := by kernel_rfl
@[go_sem] theorem t25_sz : szT Tryd.prog 25 = some 6 := by kernel_rfl
@[go_sem] theorem t25_by : bytesT Tryd.prog 25 = some 56 := by kernel_rfl
@[go_sem] theorem t25_ag : aggT Tryd.prog 25 = some true := by kernel_rfl
@[go_sem] theorem t25_ze : zeroT Tryd.prog 25 = some [.v (.int .i64 0), .v (.int .i64 0), .v (.int .i64 0), .v (.int .i64 0), .v (.int .i64 0), .v (.string ⟨#[]⟩)] := by kernel_rfl
@[go_sem] theorem t25_f0 : fldT Tryd.prog 25 0 = some (0, 1, 3) := by kernel_rfl
@[go_sem] theorem t25_f1 : fldT Tryd.prog 25 1 = some (1, 1, 3) := by kernel_rfl
@[go_sem] theorem t25_f2 : fldT Tryd.prog 25 2 = some (2, 1, 3) := by kernel_rfl
@[go_sem] theorem t25_f3 : fldT Tryd.prog 25 3 = some (3, 1, 3) := by kernel_rfl
@[go_sem] theorem t25_f4 : fldT Tryd.prog 25 4 = some (4, 1, 3) := by kernel_rfl
@[go_sem] theorem t25_f5 : fldT Tryd.prog 25 5 = some (5, 1, 9) := by kernel_rfl
@[go_sem] theorem t25_fo : fldsOf Tryd.prog 25 = some [(0, 1), (1, 1), (2, 1), (3, 1), (4, 1), (5, 1)] := by kernel_rfl
@[go_sem] theorem t25_eg : Tryd.prog.eqGuardType Tryd.prog.depth 25 = false := by kernel_rfl
@[go_sem] theorem t25_fl : eqFlds Tryd.prog 25 = some [(3, 0), (3, 1), (3, 2), (3, 3), (3, 4), (9, 5)] := by kernel_rfl
@[go_sem] theorem t25_eq (neg : Bool) (xs ys : List T) : eqAggT Tryd.prog neg 25 (.agg xs) (.agg ys) = (match toVs xs, toVs ys with | some us, some ws => (eqL Tryd.prog 19 [(3, 0), (3, 1), (3, 2), (3, 3), (3, 4), (9, 5)] us ws).map fun b => .v (.bool (if neg = true then !b else b)) | _, _ => none) := eqAgg_t t25_eg t25_ag t25_fl neg xs ys
@[go_sem] theorem t29_sz : szT Tryd.prog 29 = some 6 := by kernel_rfl
@[go_sem] theorem t29_by : bytesT Tryd.prog 29 = some 56 := by kernel_rfl
@[go_sem] theorem t29_ag : aggT Tryd.prog 29 = some true := by kernel_rfl
@[go_sem] theorem t29_ze : zeroT Tryd.prog 29 = some [.v (.int .i64 0), .v (.int .i64 0), .v (.int .i64 0), .v (.int .i64 0), .v (.int .i64 0), .v (.string ⟨#[]⟩)] := by kernel_rfl
@[go_sem] theorem t29_f0 : fldT Tryd.prog 29 0 = some (0, 1, 3) := by kernel_rfl
@[go_sem] theorem t29_f1 : fldT Tryd.prog 29 1 = some (1, 1, 3) := by kernel_rfl
@[go_sem] theorem t29_f2 : fldT Tryd.prog 29 2 = some (2, 1, 3) := by kernel_rfl
@[go_sem] theorem t29_f3 : fldT Tryd.prog 29 3 = some (3, 1, 3) := by kernel_rfl
@[go_sem] theorem t29_f4 : fldT Tryd.prog 29 4 = some (4, 1, 3) := by kernel_rfl
@[go_sem] theorem t29_f5 : fldT Tryd.prog 29 5 = some (5, 1, 9) := by kernel_rfl
@[go_sem] theorem t29_fo : fldsOf Tryd.prog 29 = some [(0, 1), (1, 1), (2, 1), (3, 1), (4, 1), (5, 1)] := by kernel_rfl
@[go_sem] theorem t29_eg : Tryd.prog.eqGuardType Tryd.prog.depth 29 = false := by kernel_rfl
@[go_sem] theorem t29_fl : eqFlds Tryd.prog 29 = some [(3, 0), (3, 1), (3, 2), (3, 3), (3, 4), (9, 5)] := by kernel_rfl
@[go_sem] theorem t29_eq (neg : Bool) (xs ys : List T) : eqAggT Tryd.prog neg 29 (.agg xs) (.agg ys) = (match toVs xs, toVs ys with | some us, some ws => (eqL Tryd.prog 19 [(3, 0), (3, 1), (3, 2), (3, 3), (3, 4), (9, 5)] us ws).map fun b => .v (.bool (if neg = true then !b else b)) | _, _ => none) := eqAgg_t t29_eg t29_ag t29_fl neg xs ys
@[go_sem] theorem t35_sz : szT Tryd.prog 35 = some 1 := by kernel_rfl
@[go_sem] theorem t35_by : bytesT Tryd.prog 35 = some 24 := by kernel_rfl
@[go_sem] theorem t35_ag : aggT Tryd.prog 35 = some false := by kernel_rfl
@[go_sem] theorem t35_ze : zeroT Tryd.prog 35 = some [.v (.slice none 0 0)] := by kernel_rfl
@[go_sem] theorem t35_el : elemT Tryd.prog 35 = some 5 := by kernel_rfl
@[go_sem] theorem t35_un : Tryd.prog.underlying 35 = some (.slice 5) := by kernel_rfl
@[go_sem] theorem t35_ni : notInt Tryd.prog 35 = true := by kernel_rfl
@[go_sem] theorem t35_bs : byteSlice Tryd.prog 35 = true := by kernel_rfl
@[go_sem] theorem t38_sz : szT Tryd.prog 38 = some 1 := by kernel_rfl
@[go_sem] theorem t38_by : bytesT Tryd.prog 38 = some 24 := by kernel_rfl
@[go_sem] theorem t38_ag : aggT Tryd.prog 38 = some false := by kernel_rfl
@[go_sem] theorem t38_ze : zeroT Tryd.prog 38 = some [.v (.slice none 0 0)] := by kernel_rfl
@[go_sem] theorem t38_el : elemT Tryd.prog 38 = some 9 := by kernel_rfl
@[go_sem] theorem t38_un : Tryd.prog.underlying 38 = some (.slice 9) := by kernel_rfl
@[go_sem] theorem t38_ni : notInt Tryd.prog 38 = true := by kernel_rfl
@[go_sem] theorem t51_sz : szT Tryd.prog 51 = some 1 := by kernel_rfl
@[go_sem] theorem t51_by : bytesT Tryd.prog 51 = some 8 := by kernel_rfl
@[go_sem] theorem t51_ag : aggT Tryd.prog 51 = some false := by kernel_rfl
@[go_sem] theorem t51_ze : zeroT Tryd.prog 51 = some [.v (.int .i64 0)] := by kernel_rfl
@[go_sem] theorem t51_un : Tryd.prog.underlying 51 = some (.int .i64) := by kernel_rfl
@[go_sem] theorem t51_ec (m : Nat) (k : IntKind) (a b : Int) : eqC Tryd.prog (m + 1) 51 [.int k a] [.int k b] = some (decide (a = b)) := eqC_int t51_un k a b
@[go_sem] theorem t58_sz : szT Tryd.prog 58 = some 24 := by kernel_rfl
@[go_sem] theorem t58_by : bytesT Tryd.prog 58 = some 24 := by kernel_rfl
@[go_sem] theorem t58_ag : aggT Tryd.prog 58 = some true := by kernel_rfl
@[go_sem] theorem t58_ze : zeroT Tryd.prog 58 = some [.v (.int .u8 0), .v (.int .u8 0), .v (.int .u8 0), .v (.int .u8 0), .v (.int .u8 0), .v (.int .u8 0), .v (.int .u8 0), .v (.int .u8 0), .v (.int .u8 0), .v (.int .u8 0), .v (.int .u8 0), .v (.int .u8 0), .v (.int .u8 0), .v (.int .u8 0), .v (.int .u8 0), .v (.int .u8 0), .v (.int .u8 0), .v (.int .u8 0), .v (.int .u8 0), .v (.int .u8 0), .v (.int .u8 0), .v (.int .u8 0), .v (.int .u8 0), .v (.int .u8 0)] := by kernel_rfl
@[go_sem] theorem t58_fo : fldsOf Tryd.prog 58 = none := by kernel_rfl
@[go_sem] theorem t58_ea : eArr Tryd.prog 58 = some 1 := by kernel_rfl
@[go_sem] theorem t58_ar : arrT Tryd.prog 58 = some (24, 5) := by kernel_rfl
@[go_sem] theorem t58_el : elemT Tryd.prog 58 = none := by kernel_rfl
@[go_sem] theorem t59_sz : szT Tryd.prog 59 = some 1 := by kernel_rfl
@[go_sem] theorem t59_by : bytesT Tryd.prog 59 = some 8 := by kernel_rfl
@[go_sem] theorem t59_ag : aggT Tryd.prog 59 = some false := by kernel_rfl
@[go_sem] theorem t59_ze : zeroT Tryd.prog 59 = some [.v (.int .u64 0)] := by kernel_rfl
@[go_sem] theorem t59_un : Tryd.prog.underlying 59 = some (.int .u64) := by kernel_rfl
@[go_sem] theorem t59_ec (m : Nat) (k : IntKind) (a b : Int) : eqC Tryd.prog (m + 1) 59 [.int k a] [.int k b] = some (decide (a = b)) := eqC_int t59_un k a b
@[go_sem] theorem t66_sz : szT Tryd.prog 66 = some 1 := by kernel_rfl
@[go_sem] theorem t66_by : bytesT Tryd.prog 66 = some 8 := by kernel_rfl
@[go_sem] theorem t66_ag : aggT Tryd.prog 66 = some false := by kernel_rfl
@[go_sem] theorem t66_ze : zeroT Tryd.prog 66 = some [.v (.int .u64 0)] := by kernel_rfl
@[go_sem] theorem t66_un : Tryd.prog.underlying 66 = some (.int .u64) := by kernel_rfl
@[go_sem] theorem t66_ec (m : Nat) (k : IntKind) (a b : Int) : eqC Tryd.prog (m + 1) 66 [.int k a] [.int k b] = some (decide (a = b)) := eqC_int t66_un k a b
@[go_sem] theorem t73_sz : szT Tryd.prog 73 = some 20 := by kernel_rfl
@[go_sem] theorem t73_by : bytesT Tryd.prog 73 = some 160 := by kernel_rfl
@[go_sem] theorem t73_ag : aggT Tryd.prog 73 = some true := by kernel_rfl
@[go_sem] theorem t73_ze : zeroT Tryd.prog 73 = some [.v (.int .u64 0), .v (.int .u64 0), .v (.int .u64 0), .v (.int .u64 0), .v (.int .u64 0), .v (.int .u64 0), .v (.int .u64 0), .v (.int .u64 0), .v (.int .u64 0), .v (.int .u64 0), .v (.int .u64 0), .v (.int .u64 0), .v (.int .u64 0), .v (.int .u64 0), .v (.int .u64 0), .v (.int .u64 0), .v (.int .u64 0), .v (.int .u64 0), .v (.int .u64 0), .v (.int .u64 0)] := by kernel_rfl
@[go_sem] theorem t73_fo : fldsOf Tryd.prog 73 = none := by kernel_rfl
@[go_sem] theorem t73_ea : eArr Tryd.prog 73 = some 1 := by kernel_rfl
@[go_sem] theorem t73_ar : arrT Tryd.prog 73 = some (20, 59) := by kernel_rfl
@[go_sem] theorem t73_el : elemT Tryd.prog 73 = none := by kernel_rfl
@[go_sem] theorem t74_sz : szT Tryd.prog 74 = some 1 := by kernel_rfl
@[go_sem] theorem t74_by : bytesT Tryd.prog 74 = some 4 := by kernel_rfl
@[go_sem] theorem t74_ag : aggT Tryd.prog 74 = some false := by kernel_rfl
@[go_sem] theorem t74_ze : zeroT Tryd.prog 74 = some [.v (.int .u32 0)] := by kernel_rfl
@[go_sem] theorem t74_un : Tryd.prog.underlying 74 = some (.int .u32) := by kernel_rfl
@[go_sem] theorem t74_ec (m : Nat) (k : IntKind) (a b : Int) : eqC Tryd.prog (m + 1) 74 [.int k a] [.int k b] = some (decide (a = b)) := eqC_int t74_un k a b
@[go_sem] theorem t80_sz : szT Tryd.prog 80 = some 1 := by kernel_rfl
@[go_sem] theorem t80_by : bytesT Tryd.prog 80 = some 16 := by kernel_rfl
@[go_sem] theorem t80_ag : aggT Tryd.prog 80 = some true := by kernel_rfl
@[go_sem] theorem t80_ze : zeroT Tryd.prog 80 = some [.v (.string ⟨#[]⟩)] := by kernel_rfl
@[go_sem] theorem t80_f0 : fldT Tryd.prog 80 0 = some (0, 1, 9) := by kernel_rfl
@[go_sem] theorem t80_fo : fldsOf Tryd.prog 80 = some [(0, 1)] := by kernel_rfl
@[go_sem] theorem t81_sz : szT Tryd.prog 81 = some 1 := by kernel_rfl
@[go_sem] theorem t81_by : bytesT Tryd.prog 81 = some 16 := by kernel_rfl
@[go_sem] theorem t81_ag : aggT Tryd.prog 81 = some true := by kernel_rfl
@[go_sem] theorem t81_ze : zeroT Tryd.prog 81 = some [.v (.string ⟨#[]⟩)] := by kernel_rfl
@[go_sem] theorem t81_f0 : fldT Tryd.prog 81 0 = some (0, 1, 9) := by kernel_rfl
@[go_sem] theorem t81_fo : fldsOf Tryd.prog 81 = some [(0, 1)] := by kernel_rfl
@[go_sem] theorem t81_eg : Tryd.prog.eqGuardType Tryd.prog.depth 81 = false := by kernel_rfl
@[go_sem] theorem t81_fl : eqFlds Tryd.prog 81 = some [(9, 0)] := by kernel_rfl
@[go_sem] theorem t81_eq (neg : Bool) (xs ys : List T) : eqAggT Tryd.prog neg 81 (.agg xs) (.agg ys) = (match toVs xs, toVs ys with | some us, some ws => (eqL Tryd.prog 19 [(9, 0)] us ws).map fun b => .v (.bool (if neg = true then !b else b)) | _, _ => none) := eqAgg_t t81_eg t81_ag t81_fl neg xs ys
@[go_sem] theorem t83_sz : szT Tryd.prog 83 = some 32 := by kernel_rfl
@[go_sem] theorem t83_by : bytesT Tryd.prog 83 = some 32 := by kernel_rfl
@[go_sem] theorem t83_ag : aggT Tryd.prog 83 = some true := by kernel_rfl
@[go_sem] theorem t83_ze : zeroT Tryd.prog 83 = some [.v (.int .u8 0), .v (.int .u8 0), .v (.int .u8 0), .v (.int .u8 0), .v (.int .u8 0), .v (.int .u8 0), .v (.int .u8 0), .v (.int .u8 0), .v (.int .u8 0), .v (.int .u8 0), .v (.int .u8 0), .v (.int .u8 0), .v (.int .u8 0), .v (.int .u8 0), .v (.int .u8 0), .v (.int .u8 0), .v (.int .u8 0), .v (.int .u8 0), .v (.int .u8 0), .v (.int .u8 0), .v (.int .u8 0), .v (.int .u8 0), .v (.int .u8 0), .v (.int .u8 0), .v (.int .u8 0), .v (.int .u8 0), .v (.int .u8 0), .v (.int .u8 0), .v (.int .u8 0), .v (.int .u8 0), .v (.int .u8 0), .v (.int .u8 0)] := by kernel_rfl
@[go_sem] theorem t83_fo : fldsOf Tryd.prog 83 = none := by kernel_rfl
@[go_sem] theorem t83_ea : eArr Tryd.prog 83 = some 1 := by kernel_rfl
@[go_sem] theorem t83_ar : arrT Tryd.prog 83 = some (32, 5) := by kernel_rfl
@[go_sem] theorem t83_el : elemT Tryd.prog 83 = none := by kernel_rfl
@[go_sem] theorem t84_sz : szT Tryd.prog 84 = some 64 := by kernel_rfl
@[go_sem] theorem t84_by : bytesT Tryd.prog 84 = some 64 := by kernel_rfl
@[go_sem] theorem t84_ag : aggT Tryd.prog 84 = some true := by kernel_rfl
@[go_sem] theorem t84_ze : zeroT Tryd.prog 84 = some [.v (.int .u8 0), .v (.int .u8 0), .v (.int .u8 0), .v (.int .u8 0), .v (.int .u8 0), .v (.int .u8 0), .v (.int .u8 0), .v (.int .u8 0), .v (.int .u8 0), .v (.int .u8 0), .v (.int .u8 0), .v (.int .u8 0), .v (.int .u8 0), .v (.int .u8 0), .v (.int .u8 0), .v (.int .u8 0), .v (.int .u8 0), .v (.int .u8 0), .v (.int .u8 0), .v (.int .u8 0), .v (.int .u8 0), .v (.int .u8 0), .v (.int .u8 0), .v (.int .u8 0), .v (.int .u8 0), .v (.int .u8 0), .v (.int .u8 0), .v (.int .u8 0), .v (.int .u8 0), .v (.int .u8 0), .v (.int .u8 0), .v (.int .u8 0), .v (.int .u8 0), .v (.int .u8 0), .v (.int .u8 0), .v (.int .u8 0), .v (.int .u8 0), .v (.int .u8 0), .v (.int .u8 0), .v (.int .u8 0), .v (.int .u8 0), .v (.int .u8 0), .v (.int .u8 0), .v (.int .u8 0), .v (.int .u8 0), .v (.int .u8 0), .v (.int .u8 0), .v (.int .u8 0), .v (.int .u8 0), .v (.int .u8 0), .v (.int .u8 0), .v (.int .u8 0), .v (.int .u8 0), .v (.int .u8 0), .v (.int .u8 0), .v (.int .u8 0), .v (.int .u8 0), .v (.int .u8 0), .v (.int .u8 0), .v (.int .u8 0), .v (.int .u8 0), .v (.int .u8 0), .v (.int .u8 0), .v (.int .u8 0)] := by kernel_rfl
@[go_sem] theorem t84_fo : fldsOf Tryd.prog 84 = none := by kernel_rfl
@[go_sem] theorem t84_ea : eArr Tryd.prog 84 = some 1 := by kernel_rfl
@[go_sem] theorem t84_ar : arrT Tryd.prog 84 = some (64, 5) := by kernel_rfl
@[go_sem] theorem t84_el : elemT Tryd.prog 84 = none := by kernel_rfl
abbrev F.laws_FnExactTextOf : FuncId := 3
theorem C.laws_FnExactTextOf : Tryd.prog.funcs[F.laws_FnExactTextOf]? = some Tryd.f3 := Tryd.func3
abbrev F.laws_FnExactDeedLine : FuncId := 4
theorem C.laws_FnExactDeedLine : Tryd.prog.funcs[F.laws_FnExactDeedLine]? = some Tryd.f4 := Tryd.func4
abbrev F.laws_FnExactNumOf : FuncId := 5
theorem C.laws_FnExactNumOf : Tryd.prog.funcs[F.laws_FnExactNumOf]? = some Tryd.f5 := Tryd.func5
abbrev F.spec_TextOf : FuncId := 6
theorem C.spec_TextOf : Tryd.prog.funcs[F.spec_TextOf]? = some Tryd.f6 := Tryd.func6
abbrev F.impl_TextOf : FuncId := 7
theorem C.impl_TextOf : Tryd.prog.funcs[F.impl_TextOf]? = some Tryd.f7 := Tryd.func7
abbrev F.laws_szDeed : FuncId := 8
theorem C.laws_szDeed : Tryd.prog.funcs[F.laws_szDeed]? = some Tryd.f8 := Tryd.func8
abbrev F.spec_DeedLine : FuncId := 9
theorem C.spec_DeedLine : Tryd.prog.funcs[F.spec_DeedLine]? = some Tryd.f9 := Tryd.func9
abbrev F.laws_toDeed : FuncId := 10
theorem C.laws_toDeed : Tryd.prog.funcs[F.laws_toDeed]? = some Tryd.f10 := Tryd.func10
abbrev F.impl_DeedLine : FuncId := 11
theorem C.impl_DeedLine : Tryd.prog.funcs[F.impl_DeedLine]? = some Tryd.f11 := Tryd.func11
abbrev F.spec_NumOf : FuncId := 12
theorem C.spec_NumOf : Tryd.prog.funcs[F.spec_NumOf]? = some Tryd.f12 := Tryd.func12
abbrev F.impl_NumOf : FuncId := 13
theorem C.impl_NumOf : Tryd.prog.funcs[F.impl_NumOf]? = some Tryd.f13 := Tryd.func13
abbrev F.impl_digits : FuncId := 14
theorem C.impl_digits : Tryd.prog.funcs[F.impl_digits]? = some Tryd.f14 := Tryd.func14
abbrev F.spec_DeedOk : FuncId := 15
theorem C.spec_DeedOk : Tryd.prog.funcs[F.spec_DeedOk]? = some Tryd.f15 := Tryd.func15
abbrev F.spec_l17Name : FuncId := 16
theorem C.spec_l17Name : Tryd.prog.funcs[F.spec_l17Name]? = some Tryd.f16 := Tryd.func16
abbrev F.spec_l17Form : FuncId := 17
theorem C.spec_l17Form : Tryd.prog.funcs[F.spec_l17Form]? = some Tryd.f17 := Tryd.func17
abbrev F.spec_HexOf : FuncId := 18
theorem C.spec_HexOf : Tryd.prog.funcs[F.spec_HexOf]? = some Tryd.f18 := Tryd.func18
abbrev F.impl_DeedOk : FuncId := 19
theorem C.impl_DeedOk : Tryd.prog.funcs[F.impl_DeedOk]? = some Tryd.f19 := Tryd.func19
abbrev F.impl_deedWords : FuncId := 20
theorem C.impl_deedWords : Tryd.prog.funcs[F.impl_deedWords]? = some Tryd.f20 := Tryd.func20
abbrev F.impl_deedForm : FuncId := 21
theorem C.impl_deedForm : Tryd.prog.funcs[F.impl_deedForm]? = some Tryd.f21 := Tryd.func21
abbrev F.impl_fieldText : FuncId := 22
theorem C.impl_fieldText : Tryd.prog.funcs[F.impl_fieldText]? = some Tryd.f22 := Tryd.func22
abbrev F.spec_l1In : FuncId := 23
theorem C.spec_l1In : Tryd.prog.funcs[F.spec_l1In]? = some Tryd.f23 := Tryd.func23
abbrev F.impl_readNumber : FuncId := 24
theorem C.impl_readNumber : Tryd.prog.funcs[F.impl_readNumber]? = some Tryd.f24 := Tryd.func24
abbrev F.strconv_Itoa : FuncId := 25
theorem C.strconv_Itoa : Tryd.prog.funcs[F.strconv_Itoa]? = some Tryd.f25 := Tryd.func25
abbrev F.spec_l2Digit : FuncId := 26
theorem C.spec_l2Digit : Tryd.prog.funcs[F.spec_l2Digit]? = some Tryd.f26 := Tryd.func26
abbrev F.impl_within : FuncId := 27
theorem C.impl_within : Tryd.prog.funcs[F.impl_within]? = some Tryd.f27 := Tryd.func27
abbrev F.impl_ofMail : FuncId := 28
theorem C.impl_ofMail : Tryd.prog.funcs[F.impl_ofMail]? = some Tryd.f28 := Tryd.func28
abbrev F.impl_isNode : FuncId := 29
theorem C.impl_isNode : Tryd.prog.funcs[F.impl_isNode]? = some Tryd.f29 := Tryd.func29
abbrev F.impl_isRelease : FuncId := 30
theorem C.impl_isRelease : Tryd.prog.funcs[F.impl_isRelease]? = some Tryd.f30 := Tryd.func30
abbrev F.impl_isSize : FuncId := 31
theorem C.impl_isSize : Tryd.prog.funcs[F.impl_isSize]? = some Tryd.f31 := Tryd.func31
abbrev F.impl_HexOf : FuncId := 32
theorem C.impl_HexOf : Tryd.prog.funcs[F.impl_HexOf]? = some Tryd.f32 := Tryd.func32
abbrev F.strconv_Atoi : FuncId := 33
theorem C.strconv_Atoi : Tryd.prog.funcs[F.strconv_Atoi]? = some Tryd.f33 := Tryd.func33
abbrev F.strings_TrimPrefix : FuncId := 34
theorem C.strings_TrimPrefix : Tryd.prog.funcs[F.strings_TrimPrefix]? = some Tryd.f34 := Tryd.func34
abbrev F.internal_strconv_Itoa : FuncId := 35
theorem C.internal_strconv_Itoa : Tryd.prog.funcs[F.internal_strconv_Itoa]? = some Tryd.f35 := Tryd.func35
abbrev F.internal_strconv_Atoi : FuncId := 36
theorem C.internal_strconv_Atoi : Tryd.prog.funcs[F.internal_strconv_Atoi]? = some Tryd.f36 := Tryd.func36
abbrev F.strconv_toError : FuncId := 37
theorem C.strconv_toError : Tryd.prog.funcs[F.strconv_toError]? = some Tryd.f37 := Tryd.func37
abbrev F.internal_stringslite_TrimPrefix : FuncId := 38
theorem C.internal_stringslite_TrimPrefix : Tryd.prog.funcs[F.internal_stringslite_TrimPrefix]? = some Tryd.f38 := Tryd.func38
abbrev F.internal_strconv_FormatInt : FuncId := 39
theorem C.internal_strconv_FormatInt : Tryd.prog.funcs[F.internal_strconv_FormatInt]? = some Tryd.f39 := Tryd.func39
abbrev F.internal_strconv_ParseInt : FuncId := 40
theorem C.internal_strconv_ParseInt : Tryd.prog.funcs[F.internal_strconv_ParseInt]? = some Tryd.f40 := Tryd.func40
abbrev F.strconv_syntaxError : FuncId := 41
theorem C.strconv_syntaxError : Tryd.prog.funcs[F.strconv_syntaxError]? = some Tryd.f41 := Tryd.func41
abbrev F.strconv_rangeError : FuncId := 42
theorem C.strconv_rangeError : Tryd.prog.funcs[F.strconv_rangeError]? = some Tryd.f42 := Tryd.func42
abbrev F.strconv_baseError : FuncId := 43
theorem C.strconv_baseError : Tryd.prog.funcs[F.strconv_baseError]? = some Tryd.f43 := Tryd.func43
abbrev F.strconv_bitSizeError : FuncId := 44
theorem C.strconv_bitSizeError : Tryd.prog.funcs[F.strconv_bitSizeError]? = some Tryd.f44 := Tryd.func44
abbrev F.internal_stringslite_HasPrefix : FuncId := 45
theorem C.internal_stringslite_HasPrefix : Tryd.prog.funcs[F.internal_stringslite_HasPrefix]? = some Tryd.f45 := Tryd.func45
abbrev F.internal_strconv_small : FuncId := 46
theorem C.internal_strconv_small : Tryd.prog.funcs[F.internal_strconv_small]? = some Tryd.f46 := Tryd.func46
abbrev F.internal_strconv_numDigits : FuncId := 47
theorem C.internal_strconv_numDigits : Tryd.prog.funcs[F.internal_strconv_numDigits]? = some Tryd.f47 := Tryd.func47
abbrev F.internal_strconv_formatBase10 : FuncId := 48
theorem C.internal_strconv_formatBase10 : Tryd.prog.funcs[F.internal_strconv_formatBase10]? = some Tryd.f48 := Tryd.func48
abbrev F.internal_strconv_formatBits : FuncId := 49
theorem C.internal_strconv_formatBits : Tryd.prog.funcs[F.internal_strconv_formatBits]? = some Tryd.f49 := Tryd.func49
abbrev F.internal_strconv_ParseUint : FuncId := 50
theorem C.internal_strconv_ParseUint : Tryd.prog.funcs[F.internal_strconv_ParseUint]? = some Tryd.f50 := Tryd.func50
abbrev F.internal_stringslite_Clone : FuncId := 51
theorem C.internal_stringslite_Clone : Tryd.prog.funcs[F.internal_stringslite_Clone]? = some Tryd.f51 := Tryd.func51
abbrev F.internal_strconv_log10Pow2 : FuncId := 53
theorem C.internal_strconv_log10Pow2 : Tryd.prog.funcs[F.internal_strconv_log10Pow2]? = some Tryd.f53 := Tryd.func53
abbrev F.math_bits_Len64 : FuncId := 54
theorem C.math_bits_Len64 : Tryd.prog.funcs[F.math_bits_Len64]? = some Tryd.f54 := Tryd.func54
abbrev F.internal_strconv_bool2_int : FuncId := 55
theorem C.internal_strconv_bool2_int : Tryd.prog.funcs[F.internal_strconv_bool2_int]? = some Tryd.f55 := Tryd.func55
abbrev F.internal_strconv_isPowerOfTwo : FuncId := 56
theorem C.internal_strconv_isPowerOfTwo : Tryd.prog.funcs[F.internal_strconv_isPowerOfTwo]? = some Tryd.f56 := Tryd.func56
abbrev F.math_bits_TrailingZeros : FuncId := 57
theorem C.math_bits_TrailingZeros : Tryd.prog.funcs[F.math_bits_TrailingZeros]? = some Tryd.f57 := Tryd.func57
abbrev F.internal_strconv_lower : FuncId := 58
theorem C.internal_strconv_lower : Tryd.prog.funcs[F.internal_strconv_lower]? = some Tryd.f58 := Tryd.func58
abbrev F.internal_strconv_underscoreOK : FuncId := 59
theorem C.internal_strconv_underscoreOK : Tryd.prog.funcs[F.internal_strconv_underscoreOK]? = some Tryd.f59 := Tryd.func59
abbrev F.math_bits_TrailingZeros32 : FuncId := 60
theorem C.math_bits_TrailingZeros32 : Tryd.prog.funcs[F.math_bits_TrailingZeros32]? = some Tryd.f60 := Tryd.func60
abbrev F.math_bits_TrailingZeros64 : FuncId := 61
theorem C.math_bits_TrailingZeros64 : Tryd.prog.funcs[F.math_bits_TrailingZeros64]? = some Tryd.f61 := Tryd.func61
abbrev F.internal_abi_Type_Align : FuncId := 74
theorem C.internal_abi_Type_Align : Tryd.prog.funcs[F.internal_abi_Type_Align]? = some Tryd.f74 := Tryd.func74
abbrev F.internal_runtime_maps_unhashableTypeError_Error : FuncId := 75
theorem C.internal_runtime_maps_unhashableTypeError_Error : Tryd.prog.funcs[F.internal_runtime_maps_unhashableTypeError_Error]? = some Tryd.f75 := Tryd.func75
abbrev F.internal_runtime_maps_unhashableTypeError_RuntimeError : FuncId := 76
theorem C.internal_runtime_maps_unhashableTypeError_RuntimeError : Tryd.prog.funcs[F.internal_runtime_maps_unhashableTypeError_RuntimeError]? = some Tryd.f76 := Tryd.func76
abbrev F.internal_strconv_Error_Error : FuncId := 77
theorem C.internal_strconv_Error_Error : Tryd.prog.funcs[F.internal_strconv_Error_Error]? = some Tryd.f77 := Tryd.func77
abbrev F.strconv_NumError_Error : FuncId := 78
theorem C.strconv_NumError_Error : Tryd.prog.funcs[F.strconv_NumError_Error]? = some Tryd.f78 := Tryd.func78
abbrev F.internal_abi_Kind_String : FuncId := 80
theorem C.internal_abi_Kind_String : Tryd.prog.funcs[F.internal_abi_Kind_String]? = some Tryd.f80 := Tryd.func80
abbrev G.ErrSyntax : Nat := 0
abbrev G.ErrRange : Nat := 1
abbrev G.uint64pow10 : Nat := 2
abbrev Y.error : TypeId := 45
abbrev Y.errorI : TypeId := 44
abbrev Y.ptr_errorString : TypeId := 79
abbrev Y.int64 : TypeId := 2
abbrev Y.int : TypeId := 3
abbrev Y.bool : TypeId := 4
abbrev Y.uint8 : TypeId := 5
abbrev Y.abi_BoundsErrorCode : TypeId := 6
abbrev Y.runtime_boundsError : TypeId := 8
abbrev Y.string : TypeId := 9
abbrev Y.runtime_errorString : TypeId := 10
abbrev Y.runtime_plainError : TypeId := 11
abbrev Y.uintptr : TypeId := 12
abbrev Y.runtime_errorAddressString : TypeId := 14
abbrev Y.int32 : TypeId := 21
abbrev Y.laws_Deed : TypeId := 25
abbrev Y.impl_Deed : TypeId := 29
abbrev Y.sl_uint8 : TypeId := 35
abbrev Y.sl_string : TypeId := 38
abbrev Y.strconv_Error : TypeId := 51
abbrev Y.ar24_uint8 : TypeId := 58
abbrev Y.uint64 : TypeId := 59
abbrev Y.uint : TypeId := 66
abbrev Y.ar20_uint64 : TypeId := 73
abbrev Y.uint32 : TypeId := 74
abbrev Y.errors_errorString : TypeId := 81
abbrev Y.ar32_uint8 : TypeId := 83
abbrev Y.ar64_uint8 : TypeId := 84
abbrev Y.abi_TFlag : TypeId := 92
abbrev Y.abi_Kind : TypeId := 93
abbrev Y.abi_NameOff : TypeId := 95
abbrev Y.abi_TypeOff : TypeId := 96

end Go.TL
