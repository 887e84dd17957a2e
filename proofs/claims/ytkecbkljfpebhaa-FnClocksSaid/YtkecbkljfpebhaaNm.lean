/- The functions by name, and facts of the type table: printed by a program of this work out of the translation. No conditions. -/
import Derived.Test.YtkecbkljfpebhaaProg
import Derived.Test.YtkecbkljfpebhaaTGo3
import Derived.KernelRfl
namespace Go.TL
set_option linter.unusedSimpArgs false
open Go.Proofs Go.RowKit

@[go_sem] theorem t2_sz : szT Try.prog 2 = some 1 := by kernel_rfl
@[go_sem] theorem t2_by : bytesT Try.prog 2 = some 8 := by kernel_rfl
@[go_sem] theorem t2_ag : aggT Try.prog 2 = some false := by kernel_rfl
@[go_sem] theorem t2_ze : zeroT Try.prog 2 = some [.v (.int .i64 0)] := by kernel_rfl
@[go_sem] theorem t2_un : Try.prog.underlying 2 = some (.int .i64) := by kernel_rfl
@[go_sem] theorem t2_ec (m : Nat) (k : IntKind) (a b : Int) : eqC Try.prog (m + 1) 2 [.int k a] [.int k b] = some (decide (a = b)) := eqC_int t2_un k a b
@[go_sem] theorem t3_sz : szT Try.prog 3 = some 1 := by kernel_rfl
@[go_sem] theorem t3_by : bytesT Try.prog 3 = some 8 := by kernel_rfl
@[go_sem] theorem t3_ag : aggT Try.prog 3 = some false := by kernel_rfl
@[go_sem] theorem t3_ze : zeroT Try.prog 3 = some [.v (.int .i64 0)] := by kernel_rfl
@[go_sem] theorem t3_un : Try.prog.underlying 3 = some (.int .i64) := by kernel_rfl
@[go_sem] theorem t3_ec (m : Nat) (k : IntKind) (a b : Int) : eqC Try.prog (m + 1) 3 [.int k a] [.int k b] = some (decide (a = b)) := eqC_int t3_un k a b
@[go_sem] theorem t4_sz : szT Try.prog 4 = some 1 := by kernel_rfl
@[go_sem] theorem t4_by : bytesT Try.prog 4 = some 1 := by kernel_rfl
@[go_sem] theorem t4_ag : aggT Try.prog 4 = some false := by kernel_rfl
@[go_sem] theorem t4_ze : zeroT Try.prog 4 = some [.v (.bool false)] := by kernel_rfl
@[go_sem] theorem t4_un : Try.prog.underlying 4 = some .bool := by kernel_rfl
@[go_sem] theorem t4_ec (m : Nat) (a b : Bool) : eqC Try.prog (m + 1) 4 [.bool a] [.bool b] = some (a == b) := eqC_bool t4_un a b
@[go_sem] theorem t4_beq (xo yo : Operand) (p q : Prop) [Decidable p] [Decidable q] : binT Try.prog .eql 4 xo yo (.v (.bool (decide p))) (.v (.bool (decide q))) = some (.v (.bool (decide (p ↔ q)))) := b_beq xo yo t4_un p q
@[go_sem] theorem t4_bne (xo yo : Operand) (p q : Prop) [Decidable p] [Decidable q] : binT Try.prog .neq 4 xo yo (.v (.bool (decide p))) (.v (.bool (decide q))) = some (.v (.bool (decide (¬ (p ↔ q))))) := b_bne xo yo t4_un p q
@[go_sem] theorem t5_sz : szT Try.prog 5 = some 1 := by kernel_rfl
@[go_sem] theorem t5_by : bytesT Try.prog 5 = some 1 := by kernel_rfl
@[go_sem] theorem t5_ag : aggT Try.prog 5 = some false := by kernel_rfl
@[go_sem] theorem t5_ze : zeroT Try.prog 5 = some [.v (.int .u8 0)] := by kernel_rfl
@[go_sem] theorem t5_un : Try.prog.underlying 5 = some (.int .u8) := by kernel_rfl
@[go_sem] theorem t5_ec (m : Nat) (k : IntKind) (a b : Int) : eqC Try.prog (m + 1) 5 [.int k a] [.int k b] = some (decide (a = b)) := eqC_int t5_un k a b
@[go_sem] theorem t9_sz : szT Try.prog 9 = some 1 := by kernel_rfl
@[go_sem] theorem t9_by : bytesT Try.prog 9 = some 16 := by kernel_rfl
@[go_sem] theorem t9_ag : aggT Try.prog 9 = some false := by kernel_rfl
@[go_sem] theorem t9_ze : zeroT Try.prog 9 = some [.v (.string ⟨#[]⟩)] := by kernel_rfl
@[go_sem] theorem t9_un : Try.prog.underlying 9 = some .string := by kernel_rfl
@[go_sem] theorem t9_ec (m : Nat) (a b : ByteArray) : eqC Try.prog (m + 1) 9 [.string a] [.string b] = some (decide (a = b)) := eqC_str t9_un a b
@[go_sem] theorem t9_ni : notInt Try.prog 9 = true := by kernel_rfl
@[go_sem] theorem t12_sz : szT Try.prog 12 = some 1 := by kernel_rfl
@[go_sem] theorem t12_by : bytesT Try.prog 12 = some 8 := by kernel_rfl
@[go_sem] theorem t12_ag : aggT Try.prog 12 = some false := by kernel_rfl
@[go_sem] theorem t12_ze : zeroT Try.prog 12 = some [.v (.int .u64 0)] := by kernel_rfl
@[go_sem] theorem t12_un : Try.prog.underlying 12 = some (.int .u64) := by kernel_rfl
@[go_sem] theorem t12_ec (m : Nat) (k : IntKind) (a b : Int) : eqC Try.prog (m + 1) 12 [.int k a] [.int k b] = some (decide (a = b)) := eqC_int t12_un k a b
@[go_sem] theorem t13_sz : szT Try.prog 13 = some 2 := by kernel_rfl
@[go_sem] theorem t13_by : bytesT Try.prog 13 = some 24 := by kernel_rfl
@[go_sem] theorem t13_ag : aggT Try.prog 13 = some true := by kernel_rfl
@[go_sem] theorem t13_ze : zeroT Try.prog 13 = some [.v (.string ⟨#[]⟩), .v (.int .u64 0)] := by kernel_rfl
@[go_sem] theorem t13_f0 : fldT Try.prog 13 0 = some (0, 1, 9) := by kernel_rfl
@[go_sem] theorem t13_f1 : fldT Try.prog 13 1 = some (1, 1, 12) := by kernel_rfl
@[go_sem] theorem t13_fo : fldsOf Try.prog 13 = some [(0, 1), (1, 1)] := by kernel_rfl
@[go_sem] theorem t21_sz : szT Try.prog 21 = some 1 := by kernel_rfl
@[go_sem] theorem t21_by : bytesT Try.prog 21 = some 4 := by kernel_rfl
@[go_sem] theorem t21_ag : aggT Try.prog 21 = some false := by kernel_rfl
@[go_sem] theorem t21_ze : zeroT Try.prog 21 = some [.v (.int .i32 0)] := by kernel_rfl
@[go_sem] theorem t21_un : Try.prog.underlying 21 = some (.int .i32) := by kernel_rfl
@[go_sem] theorem t21_ec (m : Nat) (k : IntKind) (a b : Int) : eqC Try.prog (m + 1) 21 [.int k a] [.int k b] = some (decide (a = b)) := eqC_int t21_un k a b
@[go_sem] theorem t22_sz : szT Try.prog 22 = some 1 := by kernel_rfl
@[go_sem] theorem t22_by : bytesT Try.prog 22 = some 24 := by kernel_rfl
@[go_sem] theorem t22_ag : aggT Try.prog 22 = some false := by kernel_rfl
@[go_sem] theorem t22_ze : zeroT Try.prog 22 = some [.v (.slice none 0 0)] := by kernel_rfl
@[go_sem] theorem t22_el : elemT Try.prog 22 = some 5 := by kernel_rfl
@[go_sem] theorem t22_un : Try.prog.underlying 22 = some (.slice 5) := by kernel_rfl
@[go_sem] theorem t22_ni : notInt Try.prog 22 = true := by kernel_rfl
@[go_sem] theorem t22_bs : byteSlice Try.prog 22 = true := by kernel_rfl
@[go_sem] theorem t24_sz : szT Try.prog 24 = some 1 := by kernel_rfl
@[go_sem] theorem t24_by : bytesT Try.prog 24 = some 24 := by kernel_rfl
@[go_sem] theorem t24_ag : aggT Try.prog 24 = some false := by kernel_rfl
@[go_sem] theorem t24_ze : zeroT Try.prog 24 = some [.v (.slice none 0 0)] := by kernel_rfl
@[go_sem] theorem t24_el : elemT Try.prog 24 = some 52 := by kernel_rfl
@[go_sem] theorem t24_un : Try.prog.underlying 24 = some (.slice 52) := by kernel_rfl
@[go_sem] theorem t24_ni : notInt Try.prog 24 = true := by kernel_rfl
@[go_sem] theorem t25_sz : szT Try.prog 25 = some 2 := by kernel_rfl
@[go_sem] theorem t25_by : bytesT Try.prog 25 = some 32 := by kernel_rfl
@[go_sem] theorem t25_ag : aggT Try.prog 25 = some true := by kernel_rfl
@[go_sem] theorem t25_ze : zeroT Try.prog 25 = some [.v (.int .i64 0), .v (.slice none 0 0)] := by kernel_rfl
@[go_sem] theorem t25_f0 : fldT Try.prog 25 0 = some (0, 1, 3) := by kernel_rfl
@[go_sem] theorem t25_f1 : fldT Try.prog 25 1 = some (1, 1, 24) := by kernel_rfl
@[go_sem] theorem t25_fo : fldsOf Try.prog 25 = some [(0, 1), (1, 1)] := by kernel_rfl
@[go_sem] theorem t26_sz : szT Try.prog 26 = some 2 := by kernel_rfl
@[go_sem] theorem t26_by : bytesT Try.prog 26 = some 32 := by kernel_rfl
@[go_sem] theorem t26_ag : aggT Try.prog 26 = some true := by kernel_rfl
@[go_sem] theorem t26_ze : zeroT Try.prog 26 = some [.v (.int .i64 0), .v (.slice none 0 0)] := by kernel_rfl
@[go_sem] theorem t26_f0 : fldT Try.prog 26 0 = some (0, 1, 3) := by kernel_rfl
@[go_sem] theorem t26_f1 : fldT Try.prog 26 1 = some (1, 1, 24) := by kernel_rfl
@[go_sem] theorem t26_fo : fldsOf Try.prog 26 = some [(0, 1), (1, 1)] := by kernel_rfl
@[go_sem] theorem t35_sz : szT Try.prog 35 = some 1 := by kernel_rfl
@[go_sem] theorem t35_by : bytesT Try.prog 35 = some 24 := by kernel_rfl
@[go_sem] theorem t35_ag : aggT Try.prog 35 = some false := by kernel_rfl
@[go_sem] theorem t35_ze : zeroT Try.prog 35 = some [.v (.slice none 0 0)] := by kernel_rfl
@[go_sem] theorem t35_el : elemT Try.prog 35 = some 90 := by kernel_rfl
@[go_sem] theorem t35_un : Try.prog.underlying 35 = some (.slice 90) := by kernel_rfl
@[go_sem] theorem t35_ni : notInt Try.prog 35 = true := by kernel_rfl
@[go_sem] theorem t36_sz : szT Try.prog 36 = some 1 := by kernel_rfl
@[go_sem] theorem t36_by : bytesT Try.prog 36 = some 24 := by kernel_rfl
@[go_sem] theorem t36_ag : aggT Try.prog 36 = some false := by kernel_rfl
@[go_sem] theorem t36_ze : zeroT Try.prog 36 = some [.v (.slice none 0 0)] := by kernel_rfl
@[go_sem] theorem t36_el : elemT Try.prog 36 = some 44 := by kernel_rfl
@[go_sem] theorem t36_un : Try.prog.underlying 36 = some (.slice 44) := by kernel_rfl
@[go_sem] theorem t36_ni : notInt Try.prog 36 = true := by kernel_rfl
@[go_sem] theorem t37_sz : szT Try.prog 37 = some 1 := by kernel_rfl
@[go_sem] theorem t37_by : bytesT Try.prog 37 = some 24 := by kernel_rfl
@[go_sem] theorem t37_ag : aggT Try.prog 37 = some false := by kernel_rfl
@[go_sem] theorem t37_ze : zeroT Try.prog 37 = some [.v (.slice none 0 0)] := by kernel_rfl
@[go_sem] theorem t37_el : elemT Try.prog 37 = some 94 := by kernel_rfl
@[go_sem] theorem t37_un : Try.prog.underlying 37 = some (.slice 94) := by kernel_rfl
@[go_sem] theorem t37_ni : notInt Try.prog 37 = true := by kernel_rfl
@[go_sem] theorem t38_sz : szT Try.prog 38 = some 3 := by kernel_rfl
@[go_sem] theorem t38_by : bytesT Try.prog 38 = some 72 := by kernel_rfl
@[go_sem] theorem t38_ag : aggT Try.prog 38 = some true := by kernel_rfl
@[go_sem] theorem t38_ze : zeroT Try.prog 38 = some [.v (.slice none 0 0), .v (.slice none 0 0), .v (.slice none 0 0)] := by kernel_rfl
@[go_sem] theorem t38_f0 : fldT Try.prog 38 0 = some (0, 1, 35) := by kernel_rfl
@[go_sem] theorem t38_f1 : fldT Try.prog 38 1 = some (1, 1, 36) := by kernel_rfl
@[go_sem] theorem t38_f2 : fldT Try.prog 38 2 = some (2, 1, 37) := by kernel_rfl
@[go_sem] theorem t38_fo : fldsOf Try.prog 38 = some [(0, 1), (1, 1), (2, 1)] := by kernel_rfl
@[go_sem] theorem t39_sz : szT Try.prog 39 = some 3 := by kernel_rfl
@[go_sem] theorem t39_by : bytesT Try.prog 39 = some 72 := by kernel_rfl
@[go_sem] theorem t39_ag : aggT Try.prog 39 = some true := by kernel_rfl
@[go_sem] theorem t39_ze : zeroT Try.prog 39 = some [.v (.slice none 0 0), .v (.slice none 0 0), .v (.slice none 0 0)] := by kernel_rfl
@[go_sem] theorem t39_f0 : fldT Try.prog 39 0 = some (0, 1, 35) := by kernel_rfl
@[go_sem] theorem t39_f1 : fldT Try.prog 39 1 = some (1, 1, 36) := by kernel_rfl
@[go_sem] theorem t39_f2 : fldT Try.prog 39 2 = some (2, 1, 37) := by kernel_rfl
@[go_sem] theorem t39_fo : fldsOf Try.prog 39 = some [(0, 1), (1, 1), (2, 1)] := by kernel_rfl
@[go_sem] theorem t43_sz : szT Try.prog 43 = some 3 := by kernel_rfl
@[go_sem] theorem t43_by : bytesT Try.prog 43 = some 24 := by kernel_rfl
@[go_sem] theorem t43_ag : aggT Try.prog 43 = some true := by kernel_rfl
@[go_sem] theorem t43_ze : zeroT Try.prog 43 = some [.v (.int .i64 0), .v (.int .i64 0), .v (.int .i64 0)] := by kernel_rfl
@[go_sem] theorem t43_f0 : fldT Try.prog 43 0 = some (0, 1, 3) := by kernel_rfl
@[go_sem] theorem t43_f1 : fldT Try.prog 43 1 = some (1, 1, 3) := by kernel_rfl
@[go_sem] theorem t43_f2 : fldT Try.prog 43 2 = some (2, 1, 3) := by kernel_rfl
@[go_sem] theorem t43_fo : fldsOf Try.prog 43 = some [(0, 1), (1, 1), (2, 1)] := by kernel_rfl
@[go_sem] theorem t44_sz : szT Try.prog 44 = some 3 := by kernel_rfl
@[go_sem] theorem t44_by : bytesT Try.prog 44 = some 24 := by kernel_rfl
@[go_sem] theorem t44_ag : aggT Try.prog 44 = some true := by kernel_rfl
@[go_sem] theorem t44_ze : zeroT Try.prog 44 = some [.v (.int .i64 0), .v (.int .i64 0), .v (.int .i64 0)] := by kernel_rfl
@[go_sem] theorem t44_f0 : fldT Try.prog 44 0 = some (0, 1, 3) := by kernel_rfl
@[go_sem] theorem t44_f1 : fldT Try.prog 44 1 = some (1, 1, 3) := by kernel_rfl
@[go_sem] theorem t44_f2 : fldT Try.prog 44 2 = some (2, 1, 3) := by kernel_rfl
@[go_sem] theorem t44_fo : fldsOf Try.prog 44 = some [(0, 1), (1, 1), (2, 1)] := by kernel_rfl
@[go_sem] theorem t44_eg : Try.prog.eqGuardType Try.prog.depth 44 = false := by kernel_rfl
@[go_sem] theorem t44_fl : eqFlds Try.prog 44 = some [(3, 0), (3, 1), (3, 2)] := by kernel_rfl
@[go_sem] theorem t44_eq (neg : Bool) (xs ys : List T) : eqAggT Try.prog neg 44 (.agg xs) (.agg ys) = (match toVs xs, toVs ys with | some us, some ws => (eqL Try.prog 19 [(3, 0), (3, 1), (3, 2)] us ws).map fun b => .v (.bool (if neg = true then !b else b)) | _, _ => none) := eqAgg_t t44_eg t44_ag t44_fl neg xs ys
@[go_sem] theorem t51_sz : szT Try.prog 51 = some 2 := by kernel_rfl
@[go_sem] theorem t51_by : bytesT Try.prog 51 = some 16 := by kernel_rfl
@[go_sem] theorem t51_ag : aggT Try.prog 51 = some true := by kernel_rfl
@[go_sem] theorem t51_ze : zeroT Try.prog 51 = some [.v (.int .i64 0), .v (.int .i64 0)] := by kernel_rfl
@[go_sem] theorem t51_f0 : fldT Try.prog 51 0 = some (0, 1, 3) := by kernel_rfl
@[go_sem] theorem t51_f1 : fldT Try.prog 51 1 = some (1, 1, 3) := by kernel_rfl
@[go_sem] theorem t51_fo : fldsOf Try.prog 51 = some [(0, 1), (1, 1)] := by kernel_rfl
@[go_sem] theorem t52_sz : szT Try.prog 52 = some 2 := by kernel_rfl
@[go_sem] theorem t52_by : bytesT Try.prog 52 = some 16 := by kernel_rfl
@[go_sem] theorem t52_ag : aggT Try.prog 52 = some true := by kernel_rfl
@[go_sem] theorem t52_ze : zeroT Try.prog 52 = some [.v (.int .i64 0), .v (.int .i64 0)] := by kernel_rfl
@[go_sem] theorem t52_f0 : fldT Try.prog 52 0 = some (0, 1, 3) := by kernel_rfl
@[go_sem] theorem t52_f1 : fldT Try.prog 52 1 = some (1, 1, 3) := by kernel_rfl
@[go_sem] theorem t52_fo : fldsOf Try.prog 52 = some [(0, 1), (1, 1)] := by kernel_rfl
@[go_sem] theorem t52_eg : Try.prog.eqGuardType Try.prog.depth 52 = false := by kernel_rfl
@[go_sem] theorem t52_fl : eqFlds Try.prog 52 = some [(3, 0), (3, 1)] := by kernel_rfl
@[go_sem] theorem t52_eq (neg : Bool) (xs ys : List T) : eqAggT Try.prog neg 52 (.agg xs) (.agg ys) = (match toVs xs, toVs ys with | some us, some ws => (eqL Try.prog 19 [(3, 0), (3, 1)] us ws).map fun b => .v (.bool (if neg = true then !b else b)) | _, _ => none) := eqAgg_t t52_eg t52_ag t52_fl neg xs ys
@[go_sem] theorem t57_sz : szT Try.prog 57 = some 1 := by kernel_rfl
@[go_sem] theorem t57_by : bytesT Try.prog 57 = some 24 := by kernel_rfl
@[go_sem] theorem t57_ag : aggT Try.prog 57 = some false := by kernel_rfl
@[go_sem] theorem t57_ze : zeroT Try.prog 57 = some [.v (.slice none 0 0)] := by kernel_rfl
@[go_sem] theorem t57_el : elemT Try.prog 57 = some 134 := by kernel_rfl
@[go_sem] theorem t57_un : Try.prog.underlying 57 = some (.slice 134) := by kernel_rfl
@[go_sem] theorem t57_ni : notInt Try.prog 57 = true := by kernel_rfl
@[go_sem] theorem t58_sz : szT Try.prog 58 = some 1 := by kernel_rfl
@[go_sem] theorem t58_by : bytesT Try.prog 58 = some 24 := by kernel_rfl
@[go_sem] theorem t58_ag : aggT Try.prog 58 = some false := by kernel_rfl
@[go_sem] theorem t58_ze : zeroT Try.prog 58 = some [.v (.slice none 0 0)] := by kernel_rfl
@[go_sem] theorem t58_el : elemT Try.prog 58 = some 136 := by kernel_rfl
@[go_sem] theorem t58_un : Try.prog.underlying 58 = some (.slice 136) := by kernel_rfl
@[go_sem] theorem t58_ni : notInt Try.prog 58 = true := by kernel_rfl
@[go_sem] theorem t59_sz : szT Try.prog 59 = some 1 := by kernel_rfl
@[go_sem] theorem t59_by : bytesT Try.prog 59 = some 24 := by kernel_rfl
@[go_sem] theorem t59_ag : aggT Try.prog 59 = some false := by kernel_rfl
@[go_sem] theorem t59_ze : zeroT Try.prog 59 = some [.v (.slice none 0 0)] := by kernel_rfl
@[go_sem] theorem t59_el : elemT Try.prog 59 = some 138 := by kernel_rfl
@[go_sem] theorem t59_un : Try.prog.underlying 59 = some (.slice 138) := by kernel_rfl
@[go_sem] theorem t59_ni : notInt Try.prog 59 = true := by kernel_rfl
@[go_sem] theorem t60_sz : szT Try.prog 60 = some 3 := by kernel_rfl
@[go_sem] theorem t60_by : bytesT Try.prog 60 = some 72 := by kernel_rfl
@[go_sem] theorem t60_ag : aggT Try.prog 60 = some true := by kernel_rfl
@[go_sem] theorem t60_ze : zeroT Try.prog 60 = some [.v (.slice none 0 0), .v (.slice none 0 0), .v (.slice none 0 0)] := by kernel_rfl
@[go_sem] theorem t60_f0 : fldT Try.prog 60 0 = some (0, 1, 57) := by kernel_rfl
@[go_sem] theorem t60_f1 : fldT Try.prog 60 1 = some (1, 1, 58) := by kernel_rfl
@[go_sem] theorem t60_f2 : fldT Try.prog 60 2 = some (2, 1, 59) := by kernel_rfl
@[go_sem] theorem t60_fo : fldsOf Try.prog 60 = some [(0, 1), (1, 1), (2, 1)] := by kernel_rfl
@[go_sem] theorem t61_sz : szT Try.prog 61 = some 3 := by kernel_rfl
@[go_sem] theorem t61_by : bytesT Try.prog 61 = some 72 := by kernel_rfl
@[go_sem] theorem t61_ag : aggT Try.prog 61 = some true := by kernel_rfl
@[go_sem] theorem t61_ze : zeroT Try.prog 61 = some [.v (.slice none 0 0), .v (.slice none 0 0), .v (.slice none 0 0)] := by kernel_rfl
@[go_sem] theorem t61_f0 : fldT Try.prog 61 0 = some (0, 1, 57) := by kernel_rfl
@[go_sem] theorem t61_f1 : fldT Try.prog 61 1 = some (1, 1, 58) := by kernel_rfl
@[go_sem] theorem t61_f2 : fldT Try.prog 61 2 = some (2, 1, 59) := by kernel_rfl
@[go_sem] theorem t61_fo : fldsOf Try.prog 61 = some [(0, 1), (1, 1), (2, 1)] := by kernel_rfl
@[go_sem] theorem t74_sz : szT Try.prog 74 = some 3 := by kernel_rfl
@[go_sem] theorem t74_by : bytesT Try.prog 74 = some 40 := by kernel_rfl
@[go_sem] theorem t74_ag : aggT Try.prog 74 = some true := by kernel_rfl
@[go_sem] theorem t74_ze : zeroT Try.prog 74 = some [.v (.slice none 0 0), .v (.int .i64 0), .v (.bool false)] := by kernel_rfl
@[go_sem] theorem t74_f0 : fldT Try.prog 74 0 = some (0, 1, 22) := by kernel_rfl
@[go_sem] theorem t74_f1 : fldT Try.prog 74 1 = some (1, 1, 3) := by kernel_rfl
@[go_sem] theorem t74_f2 : fldT Try.prog 74 2 = some (2, 1, 4) := by kernel_rfl
@[go_sem] theorem t74_fo : fldsOf Try.prog 74 = some [(0, 1), (1, 1), (2, 1)] := by kernel_rfl
@[go_sem] theorem t75_sz : szT Try.prog 75 = some 3 := by kernel_rfl
@[go_sem] theorem t75_by : bytesT Try.prog 75 = some 40 := by kernel_rfl
@[go_sem] theorem t75_ag : aggT Try.prog 75 = some true := by kernel_rfl
@[go_sem] theorem t75_ze : zeroT Try.prog 75 = some [.v (.slice none 0 0), .v (.int .i64 0), .v (.bool false)] := by kernel_rfl
@[go_sem] theorem t75_f0 : fldT Try.prog 75 0 = some (0, 1, 22) := by kernel_rfl
@[go_sem] theorem t75_f1 : fldT Try.prog 75 1 = some (1, 1, 3) := by kernel_rfl
@[go_sem] theorem t75_f2 : fldT Try.prog 75 2 = some (2, 1, 4) := by kernel_rfl
@[go_sem] theorem t75_fo : fldsOf Try.prog 75 = some [(0, 1), (1, 1), (2, 1)] := by kernel_rfl
@[go_sem] theorem t80_sz : szT Try.prog 80 = some 1 := by kernel_rfl
@[go_sem] theorem t80_by : bytesT Try.prog 80 = some 24 := by kernel_rfl
@[go_sem] theorem t80_ag : aggT Try.prog 80 = some false := by kernel_rfl
@[go_sem] theorem t80_ze : zeroT Try.prog 80 = some [.v (.slice none 0 0)] := by kernel_rfl
@[go_sem] theorem t80_el : elemT Try.prog 80 = some 3 := by kernel_rfl
@[go_sem] theorem t80_un : Try.prog.underlying 80 = some (.slice 3) := by kernel_rfl
@[go_sem] theorem t80_ni : notInt Try.prog 80 = true := by kernel_rfl
@[go_sem] theorem t87_sz : szT Try.prog 87 = some 3 := by kernel_rfl
@[go_sem] theorem t87_by : bytesT Try.prog 87 = some 24 := by kernel_rfl
@[go_sem] theorem t87_ag : aggT Try.prog 87 = some true := by kernel_rfl
@[go_sem] theorem t87_ze : zeroT Try.prog 87 = some [.v (.int .i64 0), .v (.int .i64 0), .v (.int .i64 0)] := by kernel_rfl
@[go_sem] theorem t87_f0 : fldT Try.prog 87 0 = some (0, 1, 3) := by kernel_rfl
@[go_sem] theorem t87_f1 : fldT Try.prog 87 1 = some (1, 1, 3) := by kernel_rfl
@[go_sem] theorem t87_f2 : fldT Try.prog 87 2 = some (2, 1, 3) := by kernel_rfl
@[go_sem] theorem t87_fo : fldsOf Try.prog 87 = some [(0, 1), (1, 1), (2, 1)] := by kernel_rfl
@[go_sem] theorem t88_sz : szT Try.prog 88 = some 3 := by kernel_rfl
@[go_sem] theorem t88_by : bytesT Try.prog 88 = some 24 := by kernel_rfl
@[go_sem] theorem t88_ag : aggT Try.prog 88 = some true := by kernel_rfl
@[go_sem] theorem t88_ze : zeroT Try.prog 88 = some [.v (.int .i64 0), .v (.int .i64 0), .v (.int .i64 0)] := by kernel_rfl
@[go_sem] theorem t88_f0 : fldT Try.prog 88 0 = some (0, 1, 3) := by kernel_rfl
@[go_sem] theorem t88_f1 : fldT Try.prog 88 1 = some (1, 1, 3) := by kernel_rfl
@[go_sem] theorem t88_f2 : fldT Try.prog 88 2 = some (2, 1, 3) := by kernel_rfl
@[go_sem] theorem t88_fo : fldsOf Try.prog 88 = some [(0, 1), (1, 1), (2, 1)] := by kernel_rfl
@[go_sem] theorem t88_eg : Try.prog.eqGuardType Try.prog.depth 88 = false := by kernel_rfl
@[go_sem] theorem t88_fl : eqFlds Try.prog 88 = some [(3, 0), (3, 1), (3, 2)] := by kernel_rfl
@[go_sem] theorem t88_eq (neg : Bool) (xs ys : List T) : eqAggT Try.prog neg 88 (.agg xs) (.agg ys) = (match toVs xs, toVs ys with | some us, some ws => (eqL Try.prog 19 [(3, 0), (3, 1), (3, 2)] us ws).map fun b => .v (.bool (if neg = true then !b else b)) | _, _ => none) := eqAgg_t t88_eg t88_ag t88_fl neg xs ys
@[go_sem] theorem t89_sz : szT Try.prog 89 = some 9 := by kernel_rfl
@[go_sem] theorem t89_by : bytesT Try.prog 89 = some 72 := by kernel_rfl
@[go_sem] theorem t89_ag : aggT Try.prog 89 = some true := by kernel_rfl
@[go_sem] theorem t89_ze : zeroT Try.prog 89 = some [.v (.int .i64 0), .v (.int .i64 0), .v (.int .i64 0), .v (.int .i64 0), .v (.int .i64 0), .v (.int .i64 0), .v (.int .i64 0), .v (.int .i64 0), .v (.int .i64 0)] := by kernel_rfl
@[go_sem] theorem t89_f0 : fldT Try.prog 89 0 = some (0, 1, 3) := by kernel_rfl
@[go_sem] theorem t89_f1 : fldT Try.prog 89 1 = some (1, 1, 3) := by kernel_rfl
@[go_sem] theorem t89_f2 : fldT Try.prog 89 2 = some (2, 1, 3) := by kernel_rfl
@[go_sem] theorem t89_f3 : fldT Try.prog 89 3 = some (3, 1, 3) := by kernel_rfl
@[go_sem] theorem t89_f4 : fldT Try.prog 89 4 = some (4, 3, 88) := by kernel_rfl
@[go_sem] theorem t89_f5 : fldT Try.prog 89 5 = some (7, 1, 3) := by kernel_rfl
@[go_sem] theorem t89_f6 : fldT Try.prog 89 6 = some (8, 1, 3) := by kernel_rfl
@[go_sem] theorem t89_fo : fldsOf Try.prog 89 = some [(0, 1), (1, 1), (2, 1), (3, 1), (4, 3), (7, 1), (8, 1)] := by kernel_rfl
@[go_sem] theorem t90_sz : szT Try.prog 90 = some 9 := by kernel_rfl
@[go_sem] theorem t90_by : bytesT Try.prog 90 = some 72 := by kernel_rfl
@[go_sem] theorem t90_ag : aggT Try.prog 90 = some true := by kernel_rfl
@[go_sem] theorem t90_ze : zeroT Try.prog 90 = some [.v (.int .i64 0), .v (.int .i64 0), .v (.int .i64 0), .v (.int .i64 0), .v (.int .i64 0), .v (.int .i64 0), .v (.int .i64 0), .v (.int .i64 0), .v (.int .i64 0)] := by kernel_rfl
@[go_sem] theorem t90_f0 : fldT Try.prog 90 0 = some (0, 1, 3) := by kernel_rfl
@[go_sem] theorem t90_f1 : fldT Try.prog 90 1 = some (1, 1, 3) := by kernel_rfl
@[go_sem] theorem t90_f2 : fldT Try.prog 90 2 = some (2, 1, 3) := by kernel_rfl
@[go_sem] theorem t90_f3 : fldT Try.prog 90 3 = some (3, 1, 3) := by kernel_rfl
@[go_sem] theorem t90_f4 : fldT Try.prog 90 4 = some (4, 3, 88) := by kernel_rfl
@[go_sem] theorem t90_f5 : fldT Try.prog 90 5 = some (7, 1, 3) := by kernel_rfl
@[go_sem] theorem t90_f6 : fldT Try.prog 90 6 = some (8, 1, 3) := by kernel_rfl
@[go_sem] theorem t90_fo : fldsOf Try.prog 90 = some [(0, 1), (1, 1), (2, 1), (3, 1), (4, 3), (7, 1), (8, 1)] := by kernel_rfl
@[go_sem] theorem t93_sz : szT Try.prog 93 = some 2 := by kernel_rfl
@[go_sem] theorem t93_by : bytesT Try.prog 93 = some 16 := by kernel_rfl
@[go_sem] theorem t93_ag : aggT Try.prog 93 = some true := by kernel_rfl
@[go_sem] theorem t93_ze : zeroT Try.prog 93 = some [.v (.int .i64 0), .v (.int .i64 0)] := by kernel_rfl
@[go_sem] theorem t93_f0 : fldT Try.prog 93 0 = some (0, 1, 3) := by kernel_rfl
@[go_sem] theorem t93_f1 : fldT Try.prog 93 1 = some (1, 1, 3) := by kernel_rfl
@[go_sem] theorem t93_fo : fldsOf Try.prog 93 = some [(0, 1), (1, 1)] := by kernel_rfl
@[go_sem] theorem t94_sz : szT Try.prog 94 = some 2 := by kernel_rfl
@[go_sem] theorem t94_by : bytesT Try.prog 94 = some 16 := by kernel_rfl
@[go_sem] theorem t94_ag : aggT Try.prog 94 = some true := by kernel_rfl
@[go_sem] theorem t94_ze : zeroT Try.prog 94 = some [.v (.int .i64 0), .v (.int .i64 0)] := by kernel_rfl
@[go_sem] theorem t94_f0 : fldT Try.prog 94 0 = some (0, 1, 3) := by kernel_rfl
@[go_sem] theorem t94_f1 : fldT Try.prog 94 1 = some (1, 1, 3) := by kernel_rfl
@[go_sem] theorem t94_fo : fldsOf Try.prog 94 = some [(0, 1), (1, 1)] := by kernel_rfl
@[go_sem] theorem t94_eg : Try.prog.eqGuardType Try.prog.depth 94 = false := by kernel_rfl
@[go_sem] theorem t94_fl : eqFlds Try.prog 94 = some [(3, 0), (3, 1)] := by kernel_rfl
@[go_sem] theorem t94_eq (neg : Bool) (xs ys : List T) : eqAggT Try.prog neg 94 (.agg xs) (.agg ys) = (match toVs xs, toVs ys with | some us, some ws => (eqL Try.prog 19 [(3, 0), (3, 1)] us ws).map fun b => .v (.bool (if neg = true then !b else b)) | _, _ => none) := eqAgg_t t94_eg t94_ag t94_fl neg xs ys
@[go_sem] theorem t95_sz : szT Try.prog 95 = some 1 := by kernel_rfl
@[go_sem] theorem t95_by : bytesT Try.prog 95 = some 24 := by kernel_rfl
@[go_sem] theorem t95_ag : aggT Try.prog 95 = some false := by kernel_rfl
@[go_sem] theorem t95_ze : zeroT Try.prog 95 = some [.v (.slice none 0 0)] := by kernel_rfl
@[go_sem] theorem t95_el : elemT Try.prog 95 = some 98 := by kernel_rfl
@[go_sem] theorem t95_un : Try.prog.underlying 95 = some (.slice 98) := by kernel_rfl
@[go_sem] theorem t95_ni : notInt Try.prog 95 = true := by kernel_rfl
@[go_sem] theorem t97_sz : szT Try.prog 97 = some 2 := by kernel_rfl
@[go_sem] theorem t97_by : bytesT Try.prog 97 = some 16 := by kernel_rfl
@[go_sem] theorem t97_ag : aggT Try.prog 97 = some true := by kernel_rfl
@[go_sem] theorem t97_ze : zeroT Try.prog 97 = some [.v (.int .i64 0), .v (.int .i64 0)] := by kernel_rfl
@[go_sem] theorem t97_f0 : fldT Try.prog 97 0 = some (0, 1, 3) := by kernel_rfl
@[go_sem] theorem t97_f1 : fldT Try.prog 97 1 = some (1, 1, 3) := by kernel_rfl
@[go_sem] theorem t97_fo : fldsOf Try.prog 97 = some [(0, 1), (1, 1)] := by kernel_rfl
@[go_sem] theorem t98_sz : szT Try.prog 98 = some 2 := by kernel_rfl
@[go_sem] theorem t98_by : bytesT Try.prog 98 = some 16 := by kernel_rfl
@[go_sem] theorem t98_ag : aggT Try.prog 98 = some true := by kernel_rfl
@[go_sem] theorem t98_ze : zeroT Try.prog 98 = some [.v (.int .i64 0), .v (.int .i64 0)] := by kernel_rfl
@[go_sem] theorem t98_f0 : fldT Try.prog 98 0 = some (0, 1, 3) := by kernel_rfl
@[go_sem] theorem t98_f1 : fldT Try.prog 98 1 = some (1, 1, 3) := by kernel_rfl
@[go_sem] theorem t98_fo : fldsOf Try.prog 98 = some [(0, 1), (1, 1)] := by kernel_rfl
@[go_sem] theorem t98_eg : Try.prog.eqGuardType Try.prog.depth 98 = false := by kernel_rfl
@[go_sem] theorem t98_fl : eqFlds Try.prog 98 = some [(3, 0), (3, 1)] := by kernel_rfl
@[go_sem] theorem t98_eq (neg : Bool) (xs ys : List T) : eqAggT Try.prog neg 98 (.agg xs) (.agg ys) = (match toVs xs, toVs ys with | some us, some ws => (eqL Try.prog 19 [(3, 0), (3, 1)] us ws).map fun b => .v (.bool (if neg = true then !b else b)) | _, _ => none) := eqAgg_t t98_eg t98_ag t98_fl neg xs ys
@[go_sem] theorem t119_sz : szT Try.prog 119 = some 3 := by kernel_rfl
@[go_sem] theorem t119_by : bytesT Try.prog 119 = some 40 := by kernel_rfl
@[go_sem] theorem t119_ag : aggT Try.prog 119 = some true := by kernel_rfl
@[go_sem] theorem t119_ze : zeroT Try.prog 119 = some [.v (.slice none 0 0), .v (.int .i64 0), .v (.int .i64 0)] := by kernel_rfl
@[go_sem] theorem t119_f0 : fldT Try.prog 119 0 = some (0, 1, 22) := by kernel_rfl
@[go_sem] theorem t119_f1 : fldT Try.prog 119 1 = some (1, 1, 3) := by kernel_rfl
@[go_sem] theorem t119_f2 : fldT Try.prog 119 2 = some (2, 1, 3) := by kernel_rfl
@[go_sem] theorem t119_fo : fldsOf Try.prog 119 = some [(0, 1), (1, 1), (2, 1)] := by kernel_rfl
@[go_sem] theorem t120_sz : szT Try.prog 120 = some 3 := by kernel_rfl
@[go_sem] theorem t120_by : bytesT Try.prog 120 = some 40 := by kernel_rfl
@[go_sem] theorem t120_ag : aggT Try.prog 120 = some true := by kernel_rfl
@[go_sem] theorem t120_ze : zeroT Try.prog 120 = some [.v (.slice none 0 0), .v (.int .i64 0), .v (.int .i64 0)] := by kernel_rfl
@[go_sem] theorem t120_f0 : fldT Try.prog 120 0 = some (0, 1, 22) := by kernel_rfl
@[go_sem] theorem t120_f1 : fldT Try.prog 120 1 = some (1, 1, 3) := by kernel_rfl
@[go_sem] theorem t120_f2 : fldT Try.prog 120 2 = some (2, 1, 3) := by kernel_rfl
@[go_sem] theorem t120_fo : fldsOf Try.prog 120 = some [(0, 1), (1, 1), (2, 1)] := by kernel_rfl
@[go_sem] theorem t132_sz : szT Try.prog 132 = some 3 := by kernel_rfl
@[go_sem] theorem t132_by : bytesT Try.prog 132 = some 24 := by kernel_rfl
@[go_sem] theorem t132_ag : aggT Try.prog 132 = some true := by kernel_rfl
@[go_sem] theorem t132_ze : zeroT Try.prog 132 = some [.v (.int .i64 0), .v (.int .i64 0), .v (.int .i64 0)] := by kernel_rfl
@[go_sem] theorem t132_f0 : fldT Try.prog 132 0 = some (0, 1, 3) := by kernel_rfl
@[go_sem] theorem t132_f1 : fldT Try.prog 132 1 = some (1, 1, 3) := by kernel_rfl
@[go_sem] theorem t132_f2 : fldT Try.prog 132 2 = some (2, 1, 3) := by kernel_rfl
@[go_sem] theorem t132_fo : fldsOf Try.prog 132 = some [(0, 1), (1, 1), (2, 1)] := by kernel_rfl
@[go_sem] theorem t132_eg : Try.prog.eqGuardType Try.prog.depth 132 = false := by kernel_rfl
@[go_sem] theorem t132_fl : eqFlds Try.prog 132 = some [(3, 0), (3, 1), (3, 2)] := by kernel_rfl
@[go_sem] theorem t132_eq (neg : Bool) (xs ys : List T) : eqAggT Try.prog neg 132 (.agg xs) (.agg ys) = (match toVs xs, toVs ys with | some us, some ws => (eqL Try.prog 19 [(3, 0), (3, 1), (3, 2)] us ws).map fun b => .v (.bool (if neg = true then !b else b)) | _, _ => none) := eqAgg_t t132_eg t132_ag t132_fl neg xs ys
@[go_sem] theorem t133_sz : szT Try.prog 133 = some 9 := by kernel_rfl
@[go_sem] theorem t133_by : bytesT Try.prog 133 = some 72 := by kernel_rfl
@[go_sem] theorem t133_ag : aggT Try.prog 133 = some true := by kernel_rfl
@[go_sem] theorem t133_ze : zeroT Try.prog 133 = some [.v (.int .i64 0), .v (.int .i64 0), .v (.int .i64 0), .v (.int .i64 0), .v (.int .i64 0), .v (.int .i64 0), .v (.int .i64 0), .v (.int .i64 0), .v (.int .i64 0)] := by kernel_rfl
@[go_sem] theorem t133_f0 : fldT Try.prog 133 0 = some (0, 1, 3) := by kernel_rfl
@[go_sem] theorem t133_f1 : fldT Try.prog 133 1 = some (1, 1, 3) := by kernel_rfl
@[go_sem] theorem t133_f2 : fldT Try.prog 133 2 = some (2, 1, 3) := by kernel_rfl
@[go_sem] theorem t133_f3 : fldT Try.prog 133 3 = some (3, 1, 3) := by kernel_rfl
@[go_sem] theorem t133_f4 : fldT Try.prog 133 4 = some (4, 3, 132) := by kernel_rfl
@[go_sem] theorem t133_f5 : fldT Try.prog 133 5 = some (7, 1, 3) := by kernel_rfl
@[go_sem] theorem t133_f6 : fldT Try.prog 133 6 = some (8, 1, 3) := by kernel_rfl
@[go_sem] theorem t133_fo : fldsOf Try.prog 133 = some [(0, 1), (1, 1), (2, 1), (3, 1), (4, 3), (7, 1), (8, 1)] := by kernel_rfl
@[go_sem] theorem t134_sz : szT Try.prog 134 = some 9 := by kernel_rfl
@[go_sem] theorem t134_by : bytesT Try.prog 134 = some 72 := by kernel_rfl
@[go_sem] theorem t134_ag : aggT Try.prog 134 = some true := by kernel_rfl
@[go_sem] theorem t134_ze : zeroT Try.prog 134 = some [.v (.int .i64 0), .v (.int .i64 0), .v (.int .i64 0), .v (.int .i64 0), .v (.int .i64 0), .v (.int .i64 0), .v (.int .i64 0), .v (.int .i64 0), .v (.int .i64 0)] := by kernel_rfl
@[go_sem] theorem t134_f0 : fldT Try.prog 134 0 = some (0, 1, 3) := by kernel_rfl
@[go_sem] theorem t134_f1 : fldT Try.prog 134 1 = some (1, 1, 3) := by kernel_rfl
@[go_sem] theorem t134_f2 : fldT Try.prog 134 2 = some (2, 1, 3) := by kernel_rfl
@[go_sem] theorem t134_f3 : fldT Try.prog 134 3 = some (3, 1, 3) := by kernel_rfl
@[go_sem] theorem t134_f4 : fldT Try.prog 134 4 = some (4, 3, 132) := by kernel_rfl
@[go_sem] theorem t134_f5 : fldT Try.prog 134 5 = some (7, 1, 3) := by kernel_rfl
@[go_sem] theorem t134_f6 : fldT Try.prog 134 6 = some (8, 1, 3) := by kernel_rfl
@[go_sem] theorem t134_fo : fldsOf Try.prog 134 = some [(0, 1), (1, 1), (2, 1), (3, 1), (4, 3), (7, 1), (8, 1)] := by kernel_rfl
@[go_sem] theorem t136_sz : szT Try.prog 136 = some 3 := by kernel_rfl
@[go_sem] theorem t136_by : bytesT Try.prog 136 = some 24 := by kernel_rfl
@[go_sem] theorem t136_ag : aggT Try.prog 136 = some true := by kernel_rfl
@[go_sem] theorem t136_ze : zeroT Try.prog 136 = some [.v (.int .i64 0), .v (.int .i64 0), .v (.int .i64 0)] := by kernel_rfl
@[go_sem] theorem t136_f0 : fldT Try.prog 136 0 = some (0, 1, 3) := by kernel_rfl
@[go_sem] theorem t136_f1 : fldT Try.prog 136 1 = some (1, 1, 3) := by kernel_rfl
@[go_sem] theorem t136_f2 : fldT Try.prog 136 2 = some (2, 1, 3) := by kernel_rfl
@[go_sem] theorem t136_fo : fldsOf Try.prog 136 = some [(0, 1), (1, 1), (2, 1)] := by kernel_rfl
@[go_sem] theorem t136_eg : Try.prog.eqGuardType Try.prog.depth 136 = false := by kernel_rfl
@[go_sem] theorem t136_fl : eqFlds Try.prog 136 = some [(3, 0), (3, 1), (3, 2)] := by kernel_rfl
@[go_sem] theorem t136_eq (neg : Bool) (xs ys : List T) : eqAggT Try.prog neg 136 (.agg xs) (.agg ys) = (match toVs xs, toVs ys with | some us, some ws => (eqL Try.prog 19 [(3, 0), (3, 1), (3, 2)] us ws).map fun b => .v (.bool (if neg = true then !b else b)) | _, _ => none) := eqAgg_t t136_eg t136_ag t136_fl neg xs ys
@[go_sem] theorem t138_sz : szT Try.prog 138 = some 2 := by kernel_rfl
@[go_sem] theorem t138_by : bytesT Try.prog 138 = some 16 := by kernel_rfl
@[go_sem] theorem t138_ag : aggT Try.prog 138 = some true := by kernel_rfl
@[go_sem] theorem t138_ze : zeroT Try.prog 138 = some [.v (.int .i64 0), .v (.int .i64 0)] := by kernel_rfl
@[go_sem] theorem t138_f0 : fldT Try.prog 138 0 = some (0, 1, 3) := by kernel_rfl
@[go_sem] theorem t138_f1 : fldT Try.prog 138 1 = some (1, 1, 3) := by kernel_rfl
@[go_sem] theorem t138_fo : fldsOf Try.prog 138 = some [(0, 1), (1, 1)] := by kernel_rfl
@[go_sem] theorem t138_eg : Try.prog.eqGuardType Try.prog.depth 138 = false := by kernel_rfl
@[go_sem] theorem t138_fl : eqFlds Try.prog 138 = some [(3, 0), (3, 1)] := by kernel_rfl
@[go_sem] theorem t138_eq (neg : Bool) (xs ys : List T) : eqAggT Try.prog neg 138 (.agg xs) (.agg ys) = (match toVs xs, toVs ys with | some us, some ws => (eqL Try.prog 19 [(3, 0), (3, 1)] us ws).map fun b => .v (.bool (if neg = true then !b else b)) | _, _ => none) := eqAgg_t t138_eg t138_ag t138_fl neg xs ys
@[go_sem] theorem t143_sz : szT Try.prog 143 = some 1 := by kernel_rfl
@[go_sem] theorem t143_by : bytesT Try.prog 143 = some 8 := by kernel_rfl
@[go_sem] theorem t143_ag : aggT Try.prog 143 = some false := by kernel_rfl
@[go_sem] theorem t143_ze : zeroT Try.prog 143 = some [.v (.int .u64 0)] := by kernel_rfl
@[go_sem] theorem t143_un : Try.prog.underlying 143 = some (.int .u64) := by kernel_rfl
@[go_sem] theorem t143_ec (m : Nat) (k : IntKind) (a b : Int) : eqC Try.prog (m + 1) 143 [.int k a] [.int k b] = some (decide (a = b)) := eqC_int t143_un k a b
@[go_sem] theorem t157_sz : szT Try.prog 157 = some 1 := by kernel_rfl
@[go_sem] theorem t157_by : bytesT Try.prog 157 = some 4 := by kernel_rfl
@[go_sem] theorem t157_ag : aggT Try.prog 157 = some false := by kernel_rfl
@[go_sem] theorem t157_ze : zeroT Try.prog 157 = some [.v (.int .u32 0)] := by kernel_rfl
@[go_sem] theorem t157_un : Try.prog.underlying 157 = some (.int .u32) := by kernel_rfl
@[go_sem] theorem t157_ec (m : Nat) (k : IntKind) (a b : Int) : eqC Try.prog (m + 1) 157 [.int k a] [.int k b] = some (decide (a = b)) := eqC_int t157_un k a b
abbrev F.laws_FnTable : FuncId := 3
theorem C.laws_FnTable : Try.prog.funcs[F.laws_FnTable]? = some Try.f3 := Try.func3
abbrev F.laws_FnZones : FuncId := 4
theorem C.laws_FnZones : Try.prog.funcs[F.laws_FnZones]? = some Try.f4 := Try.func4
abbrev F.laws_FnClocks : FuncId := 5
theorem C.laws_FnClocks : Try.prog.funcs[F.laws_FnClocks]? = some Try.f5 := Try.func5
abbrev F.laws_FnExactZoneTable : FuncId := 6
theorem C.laws_FnExactZoneTable : Try.prog.funcs[F.laws_FnExactZoneTable]? = some Try.f6 := Try.func6
abbrev F.laws_big : FuncId := 7
theorem C.laws_big : Try.prog.funcs[F.laws_big]? = some Try.f7 := Try.func7
abbrev F.spec_DrawTablePack : FuncId := 8
theorem C.spec_DrawTablePack : Try.prog.funcs[F.spec_DrawTablePack]? = some Try.f8 := Try.func8
abbrev F.impl_TablePack : FuncId := 9
theorem C.impl_TablePack : Try.prog.funcs[F.impl_TablePack]? = some Try.f9 := Try.func9
abbrev F.spec_TableOk : FuncId := 10
theorem C.spec_TableOk : Try.prog.funcs[F.spec_TableOk]? = some Try.f10 := Try.func10
abbrev F.impl_TableRead : FuncId := 11
theorem C.impl_TableRead : Try.prog.funcs[F.impl_TableRead]? = some Try.f11 := Try.func11
abbrev F.laws_sameShifts : FuncId := 12
theorem C.laws_sameShifts : Try.prog.funcs[F.laws_sameShifts]? = some Try.f12 := Try.func12
abbrev F.spec_DrawTableRead : FuncId := 13
theorem C.spec_DrawTableRead : Try.prog.funcs[F.spec_DrawTableRead]? = some Try.f13 := Try.func13
abbrev F.spec_TableRead : FuncId := 14
theorem C.spec_TableRead : Try.prog.funcs[F.spec_TableRead]? = some Try.f14 := Try.func14
abbrev F.spec_DrawSourceOk : FuncId := 15
theorem C.spec_DrawSourceOk : Try.prog.funcs[F.spec_DrawSourceOk]? = some Try.f15 := Try.func15
abbrev F.spec_SourceOk : FuncId := 16
theorem C.spec_SourceOk : Try.prog.funcs[F.spec_SourceOk]? = some Try.f16 := Try.func16
abbrev F.impl_ZoneTable : FuncId := 17
theorem C.impl_ZoneTable : Try.prog.funcs[F.impl_ZoneTable]? = some Try.f17 := Try.func17
abbrev F.impl_SourceOk : FuncId := 18
theorem C.impl_SourceOk : Try.prog.funcs[F.impl_SourceOk]? = some Try.f18 := Try.func18
abbrev F.impl_ZoneOf : FuncId := 19
theorem C.impl_ZoneOf : Try.prog.funcs[F.impl_ZoneOf]? = some Try.f19 := Try.func19
abbrev F.spec_ZoneTable : FuncId := 20
theorem C.spec_ZoneTable : Try.prog.funcs[F.spec_ZoneTable]? = some Try.f20 := Try.func20
abbrev F.impl_TableAt : FuncId := 21
theorem C.impl_TableAt : Try.prog.funcs[F.impl_TableAt]? = some Try.f21 := Try.func21
abbrev F.laws_at : FuncId := 22
theorem C.laws_at : Try.prog.funcs[F.laws_at]? = some Try.f22 := Try.func22
abbrev F.spec_DrawZoneTable : FuncId := 23
theorem C.spec_DrawZoneTable : Try.prog.funcs[F.spec_DrawZoneTable]? = some Try.f23 := Try.func23
abbrev F.impl_TableOk : FuncId := 24
theorem C.impl_TableOk : Try.prog.funcs[F.impl_TableOk]? = some Try.f24 := Try.func24
abbrev F.impl_TableLocal : FuncId := 25
theorem C.impl_TableLocal : Try.prog.funcs[F.impl_TableLocal]? = some Try.f25 := Try.func25
abbrev F.impl_DayOf : FuncId := 26
theorem C.impl_DayOf : Try.prog.funcs[F.impl_DayOf]? = some Try.f26 := Try.func26
abbrev F.laws_szSource : FuncId := 27
theorem C.laws_szSource : Try.prog.funcs[F.laws_szSource]? = some Try.f27 := Try.func27
abbrev F.laws_toSource : FuncId := 28
theorem C.laws_toSource : Try.prog.funcs[F.laws_toSource]? = some Try.f28 := Try.func28
abbrev F.laws_eqTable : FuncId := 29
theorem C.laws_eqTable : Try.prog.funcs[F.laws_eqTable]? = some Try.f29 := Try.func29
abbrev F.laws_eqSource : FuncId := 30
theorem C.laws_eqSource : Try.prog.funcs[F.laws_eqSource]? = some Try.f30 := Try.func30
abbrev F.laws_markSource : FuncId := 31
theorem C.laws_markSource : Try.prog.funcs[F.laws_markSource]? = some Try.f31 := Try.func31
abbrev F.laws_markTable : FuncId := 32
theorem C.laws_markTable : Try.prog.funcs[F.laws_markTable]? = some Try.f32 := Try.func32
abbrev F.laws_heldTable : FuncId := 33
theorem C.laws_heldTable : Try.prog.funcs[F.laws_heldTable]? = some Try.f33 := Try.func33
abbrev F.spec_l13DrawTable : FuncId := 34
theorem C.spec_l13DrawTable : Try.prog.funcs[F.spec_l13DrawTable]? = some Try.f34 := Try.func34
abbrev F.spec_l1New : FuncId := 35
theorem C.spec_l1New : Try.prog.funcs[F.spec_l1New]? = some Try.f35 := Try.func35
abbrev F.impl_putNums : FuncId := 36
theorem C.impl_putNums : Try.prog.funcs[F.impl_putNums]? = some Try.f36 := Try.func36
abbrev F.spec_l1In : FuncId := 37
theorem C.spec_l1In : Try.prog.funcs[F.spec_l1In]? = some Try.f37 := Try.func37
abbrev F.impl_reader_num : FuncId := 38
theorem C.impl_reader_num : Try.prog.funcs[F.impl_reader_num]? = some Try.f38 := Try.func38
abbrev F.impl_reader_done : FuncId := 39
theorem C.impl_reader_done : Try.prog.funcs[F.impl_reader_done]? = some Try.f39 := Try.func39
abbrev F.spec_TablePack : FuncId := 40
theorem C.spec_TablePack : Try.prog.funcs[F.spec_TablePack]? = some Try.f40 := Try.func40
abbrev F.spec_l1Once : FuncId := 41
theorem C.spec_l1Once : Try.prog.funcs[F.spec_l1Once]? = some Try.f41 := Try.func41
abbrev F.spec_l1PickInt : FuncId := 42
theorem C.spec_l1PickInt : Try.prog.funcs[F.spec_l1PickInt]? = some Try.f42 := Try.func42
abbrev F.spec_l1Below : FuncId := 43
theorem C.spec_l1Below : Try.prog.funcs[F.spec_l1Below]? = some Try.f43 := Try.func43
abbrev F.spec_l1Min : FuncId := 44
theorem C.spec_l1Min : Try.prog.funcs[F.spec_l1Min]? = some Try.f44 := Try.func44
abbrev F.spec_GetNum : FuncId := 45
theorem C.spec_GetNum : Try.prog.funcs[F.spec_GetNum]? = some Try.f45 := Try.func45
abbrev F.spec_l12DrawSource : FuncId := 46
theorem C.spec_l12DrawSource : Try.prog.funcs[F.spec_l12DrawSource]? = some Try.f46 := Try.func46
abbrev F.spec_l12RuleOk : FuncId := 47
theorem C.spec_l12RuleOk : Try.prog.funcs[F.spec_l12RuleOk]? = some Try.f47 := Try.func47
abbrev F.spec_l12Zone : FuncId := 48
theorem C.spec_l12Zone : Try.prog.funcs[F.spec_l12Zone]? = some Try.f48 := Try.func48
abbrev F.spec_l12Link : FuncId := 49
theorem C.spec_l12Link : Try.prog.funcs[F.spec_l12Link]? = some Try.f49 := Try.func49
abbrev F.impl_settingsOf : FuncId := 50
theorem C.impl_settingsOf : Try.prog.funcs[F.impl_settingsOf]? = some Try.f50 := Try.func50
abbrev F.impl_ruleOk : FuncId := 51
theorem C.impl_ruleOk : Try.prog.funcs[F.impl_ruleOk]? = some Try.f51 := Try.func51
abbrev F.impl_zoneOk : FuncId := 52
theorem C.impl_zoneOk : Try.prog.funcs[F.impl_zoneOk]? = some Try.f52 := Try.func52
abbrev F.impl_hasRule : FuncId := 53
theorem C.impl_hasRule : Try.prog.funcs[F.impl_hasRule]? = some Try.f53 := Try.func53
abbrev F.impl_isGreat : FuncId := 54
theorem C.impl_isGreat : Try.prog.funcs[F.impl_isGreat]? = some Try.f54 := Try.func54
abbrev F.impl_zoneAt : FuncId := 55
theorem C.impl_zoneAt : Try.prog.funcs[F.impl_zoneAt]? = some Try.f55 := Try.func55
abbrev F.spec_ZoneOf : FuncId := 56
theorem C.spec_ZoneOf : Try.prog.funcs[F.spec_ZoneOf]? = some Try.f56 := Try.func56
abbrev F.spec_l13Walls : FuncId := 57
theorem C.spec_l13Walls : Try.prog.funcs[F.spec_l13Walls]? = some Try.f57 := Try.func57
abbrev F.spec_l13DrawSource : FuncId := 58
theorem C.spec_l13DrawSource : Try.prog.funcs[F.spec_l13DrawSource]? = some Try.f58 := Try.func58
abbrev F.impl_isMinute : FuncId := 59
theorem C.impl_isMinute : Try.prog.funcs[F.impl_isMinute]? = some Try.f59 := Try.func59
abbrev F.impl_isOff : FuncId := 60
theorem C.impl_isOff : Try.prog.funcs[F.impl_isOff]? = some Try.f60 := Try.func60
abbrev F.impl_DateOf : FuncId := 61
theorem C.impl_DateOf : Try.prog.funcs[F.impl_DateOf]? = some Try.f61 := Try.func61
abbrev F.impl_within : FuncId := 62
theorem C.impl_within : Try.prog.funcs[F.impl_within]? = some Try.f62 := Try.func62
abbrev F.impl_MonthLong : FuncId := 63
theorem C.impl_MonthLong : Try.prog.funcs[F.impl_MonthLong]? = some Try.f63 := Try.func63
abbrev F.impl_yearBegins : FuncId := 64
theorem C.impl_yearBegins : Try.prog.funcs[F.impl_yearBegins]? = some Try.f64 := Try.func64
abbrev F.laws_szRuleS : FuncId := 65
theorem C.laws_szRuleS : Try.prog.funcs[F.laws_szRuleS]? = some Try.f65 := Try.func65
abbrev F.laws_szZoneS : FuncId := 66
theorem C.laws_szZoneS : Try.prog.funcs[F.laws_szZoneS]? = some Try.f66 := Try.func66
abbrev F.laws_szLinkS : FuncId := 67
theorem C.laws_szLinkS : Try.prog.funcs[F.laws_szLinkS]? = some Try.f67 := Try.func67
abbrev F.laws_toRuleS : FuncId := 68
theorem C.laws_toRuleS : Try.prog.funcs[F.laws_toRuleS]? = some Try.f68 := Try.func68
abbrev F.laws_toZoneS : FuncId := 69
theorem C.laws_toZoneS : Try.prog.funcs[F.laws_toZoneS]? = some Try.f69 := Try.func69
abbrev F.laws_toLinkS : FuncId := 70
theorem C.laws_toLinkS : Try.prog.funcs[F.laws_toLinkS]? = some Try.f70 := Try.func70
abbrev F.laws_eqShiftS : FuncId := 71
theorem C.laws_eqShiftS : Try.prog.funcs[F.laws_eqShiftS]? = some Try.f71 := Try.func71
abbrev F.laws_eqRuleS : FuncId := 72
theorem C.laws_eqRuleS : Try.prog.funcs[F.laws_eqRuleS]? = some Try.f72 := Try.func72
abbrev F.laws_eqZoneS : FuncId := 73
theorem C.laws_eqZoneS : Try.prog.funcs[F.laws_eqZoneS]? = some Try.f73 := Try.func73
abbrev F.laws_eqLinkS : FuncId := 74
theorem C.laws_eqLinkS : Try.prog.funcs[F.laws_eqLinkS]? = some Try.f74 := Try.func74
abbrev F.laws_markRuleS : FuncId := 75
theorem C.laws_markRuleS : Try.prog.funcs[F.laws_markRuleS]? = some Try.f75 := Try.func75
abbrev F.laws_markZoneS : FuncId := 76
theorem C.laws_markZoneS : Try.prog.funcs[F.laws_markZoneS]? = some Try.f76 := Try.func76
abbrev F.laws_markLinkS : FuncId := 77
theorem C.laws_markLinkS : Try.prog.funcs[F.laws_markLinkS]? = some Try.f77 := Try.func77
abbrev F.laws_markShiftS : FuncId := 78
theorem C.laws_markShiftS : Try.prog.funcs[F.laws_markShiftS]? = some Try.f78 := Try.func78
abbrev F.laws_heldShiftS : FuncId := 79
theorem C.laws_heldShiftS : Try.prog.funcs[F.laws_heldShiftS]? = some Try.f79 := Try.func79
abbrev F.impl_PutNum : FuncId := 80
theorem C.impl_PutNum : Try.prog.funcs[F.impl_PutNum]? = some Try.f80 := Try.func80
abbrev F.impl_GetNum : FuncId := 81
theorem C.impl_GetNum : Try.prog.funcs[F.impl_GetNum]? = some Try.f81 := Try.func81
abbrev F.spec_PutNum : FuncId := 82
theorem C.spec_PutNum : Try.prog.funcs[F.spec_PutNum]? = some Try.f82 := Try.func82
abbrev F.spec_l1Byte : FuncId := 83
theorem C.spec_l1Byte : Try.prog.funcs[F.spec_l1Byte]? = some Try.f83 := Try.func83
abbrev F.spec_l12DrawRight : FuncId := 84
theorem C.spec_l12DrawRight : Try.prog.funcs[F.spec_l12DrawRight]? = some Try.f84 := Try.func84
abbrev F.spec_l12Small : FuncId := 85
theorem C.spec_l12Small : Try.prog.funcs[F.spec_l12Small]? = some Try.f85 := Try.func85
abbrev F.spec_l11Year : FuncId := 86
theorem C.spec_l11Year : Try.prog.funcs[F.spec_l11Year]? = some Try.f86 := Try.func86
abbrev F.spec_OnOk : FuncId := 87
theorem C.spec_OnOk : Try.prog.funcs[F.spec_OnOk]? = some Try.f87 := Try.func87
abbrev F.spec_l12Great : FuncId := 88
theorem C.spec_l12Great : Try.prog.funcs[F.spec_l12Great]? = some Try.f88 := Try.func88
abbrev F.spec_l12HasRule : FuncId := 89
theorem C.spec_l12HasRule : Try.prog.funcs[F.spec_l12HasRule]? = some Try.f89 := Try.func89
abbrev F.spec_l12HasZone : FuncId := 90
theorem C.spec_l12HasZone : Try.prog.funcs[F.spec_l12HasZone]? = some Try.f90 := Try.func90
abbrev F.impl_OnDay : FuncId := 91
theorem C.impl_OnDay : Try.prog.funcs[F.impl_OnDay]? = some Try.f91 := Try.func91
abbrev F.slices_SortStableFunc_setting : FuncId := 92
theorem C.slices_SortStableFunc_setting : Try.prog.funcs[F.slices_SortStableFunc_setting]? = some Try.f92 := Try.func92
abbrev F.impl_settingsOf_1 : FuncId := 93
theorem C.impl_settingsOf_1 : Try.prog.funcs[F.impl_settingsOf_1]? = some Try.f93 := Try.func93
abbrev F.cmp_Compare_int : FuncId := 94
theorem C.cmp_Compare_int : Try.prog.funcs[F.cmp_Compare_int]? = some Try.f94 := Try.func94
abbrev F.impl_isYear : FuncId := 95
theorem C.impl_isYear : Try.prog.funcs[F.impl_isYear]? = some Try.f95 := Try.func95
abbrev F.impl_isSmall : FuncId := 96
theorem C.impl_isSmall : Try.prog.funcs[F.impl_isSmall]? = some Try.f96 := Try.func96
abbrev F.impl_OnOk : FuncId := 97
theorem C.impl_OnOk : Try.prog.funcs[F.impl_OnOk]? = some Try.f97 := Try.func97
abbrev F.slices_ContainsFunc_Rule : FuncId := 98
theorem C.slices_ContainsFunc_Rule : Try.prog.funcs[F.slices_ContainsFunc_Rule]? = some Try.f98 := Try.func98
abbrev F.impl_hasRule_1 : FuncId := 99
theorem C.impl_hasRule_1 : Try.prog.funcs[F.impl_hasRule_1]? = some Try.f99 := Try.func99
abbrev F.slices_IndexFunc_Zone : FuncId := 100
theorem C.slices_IndexFunc_Zone : Try.prog.funcs[F.slices_IndexFunc_Zone]? = some Try.f100 := Try.func100
abbrev F.impl_zoneAt_1 : FuncId := 101
theorem C.impl_zoneAt_1 : Try.prog.funcs[F.impl_zoneAt_1]? = some Try.f101 := Try.func101
abbrev F.spec_OnDay : FuncId := 102
theorem C.spec_OnDay : Try.prog.funcs[F.spec_OnDay]? = some Try.f102 := Try.func102
abbrev F.impl_yearLong : FuncId := 103
theorem C.impl_yearLong : Try.prog.funcs[F.impl_yearLong]? = some Try.f103 := Try.func103
abbrev F.impl_isLeap : FuncId := 104
theorem C.impl_isLeap : Try.prog.funcs[F.impl_isLeap]? = some Try.f104 := Try.func104
abbrev F.laws_toRule : FuncId := 105
theorem C.laws_toRule : Try.prog.funcs[F.laws_toRule]? = some Try.f105 := Try.func105
abbrev F.laws_toZone : FuncId := 106
theorem C.laws_toZone : Try.prog.funcs[F.laws_toZone]? = some Try.f106 := Try.func106
abbrev F.laws_toLink : FuncId := 107
theorem C.laws_toLink : Try.prog.funcs[F.laws_toLink]? = some Try.f107 := Try.func107
abbrev F.laws_eqShift : FuncId := 108
theorem C.laws_eqShift : Try.prog.funcs[F.laws_eqShift]? = some Try.f108 := Try.func108
abbrev F.laws_eqRule : FuncId := 109
theorem C.laws_eqRule : Try.prog.funcs[F.laws_eqRule]? = some Try.f109 := Try.func109
abbrev F.laws_eqZone : FuncId := 110
theorem C.laws_eqZone : Try.prog.funcs[F.laws_eqZone]? = some Try.f110 := Try.func110
abbrev F.laws_eqLink : FuncId := 111
theorem C.laws_eqLink : Try.prog.funcs[F.laws_eqLink]? = some Try.f111 := Try.func111
abbrev F.spec_l12DrawRule : FuncId := 112
theorem C.spec_l12DrawRule : Try.prog.funcs[F.spec_l12DrawRule]? = some Try.f112 := Try.func112
abbrev F.impl_WeekOf : FuncId := 113
theorem C.impl_WeekOf : Try.prog.funcs[F.impl_WeekOf]? = some Try.f113 := Try.func113
abbrev F.slices_stableCmpFunc_setting : FuncId := 114
theorem C.slices_stableCmpFunc_setting : Try.prog.funcs[F.slices_stableCmpFunc_setting]? = some Try.f114 := Try.func114
abbrev F.cmp_isNaN_int : FuncId := 115
theorem C.cmp_isNaN_int : Try.prog.funcs[F.cmp_isNaN_int]? = some Try.f115 := Try.func115
abbrev F.slices_IndexFunc_Rule : FuncId := 116
theorem C.slices_IndexFunc_Rule : Try.prog.funcs[F.slices_IndexFunc_Rule]? = some Try.f116 := Try.func116
abbrev F.spec_MonthLong : FuncId := 117
theorem C.spec_MonthLong : Try.prog.funcs[F.spec_MonthLong]? = some Try.f117 := Try.func117
abbrev F.spec_DayOf : FuncId := 118
theorem C.spec_DayOf : Try.prog.funcs[F.spec_DayOf]? = some Try.f118 := Try.func118
abbrev F.spec_WeekOf : FuncId := 119
theorem C.spec_WeekOf : Try.prog.funcs[F.spec_WeekOf]? = some Try.f119 := Try.func119
abbrev F.laws_toOn : FuncId := 120
theorem C.laws_toOn : Try.prog.funcs[F.laws_toOn]? = some Try.f120 := Try.func120
abbrev F.laws_eqOn : FuncId := 121
theorem C.laws_eqOn : Try.prog.funcs[F.laws_eqOn]? = some Try.f121 := Try.func121
abbrev F.slices_insertionSortCmpFunc_setting : FuncId := 122
theorem C.slices_insertionSortCmpFunc_setting : Try.prog.funcs[F.slices_insertionSortCmpFunc_setting]? = some Try.f122 := Try.func122
abbrev F.slices_symMergeCmpFunc_setting : FuncId := 123
theorem C.slices_symMergeCmpFunc_setting : Try.prog.funcs[F.slices_symMergeCmpFunc_setting]? = some Try.f123 := Try.func123
abbrev F.spec_l11Long : FuncId := 124
theorem C.spec_l11Long : Try.prog.funcs[F.spec_l11Long]? = some Try.f124 := Try.func124
abbrev F.spec_l11Begin : FuncId := 125
theorem C.spec_l11Begin : Try.prog.funcs[F.spec_l11Begin]? = some Try.f125 := Try.func125
abbrev F.slices_rotateCmpFunc_setting : FuncId := 126
theorem C.slices_rotateCmpFunc_setting : Try.prog.funcs[F.slices_rotateCmpFunc_setting]? = some Try.f126 := Try.func126
abbrev F.spec_l11Leap : FuncId := 127
theorem C.spec_l11Leap : Try.prog.funcs[F.spec_l11Leap]? = some Try.f127 := Try.func127
abbrev F.slices_swapRangeCmpFunc_setting : FuncId := 128
theorem C.slices_swapRangeCmpFunc_setting : Try.prog.funcs[F.slices_swapRangeCmpFunc_setting]? = some Try.f128 := Try.func128
abbrev F.internal_abi_Type_Align : FuncId := 141
theorem C.internal_abi_Type_Align : Try.prog.funcs[F.internal_abi_Type_Align]? = some Try.f141 := Try.func141
abbrev F.internal_runtime_maps_unhashableTypeError_Error : FuncId := 142
theorem C.internal_runtime_maps_unhashableTypeError_Error : Try.prog.funcs[F.internal_runtime_maps_unhashableTypeError_Error]? = some Try.f142 := Try.func142
abbrev F.internal_runtime_maps_unhashableTypeError_RuntimeError : FuncId := 143
theorem C.internal_runtime_maps_unhashableTypeError_RuntimeError : Try.prog.funcs[F.internal_runtime_maps_unhashableTypeError_RuntimeError]? = some Try.f143 := Try.func143
abbrev F.internal_abi_Kind_String : FuncId := 144
theorem C.internal_abi_Kind_String : Try.prog.funcs[F.internal_abi_Kind_String]? = some Try.f144 := Try.func144
abbrev Y.int64 : TypeId := 2
abbrev Y.int : TypeId := 3
abbrev Y.bool : TypeId := 4
abbrev Y.uint8 : TypeId := 5
abbrev Y.abi_BoundsErrorCode : TypeId := 6
abbrev Y.runtime_boundsError : TypeId := 8
abbrev Y.string : TypeId := 9
abbrev Y.runtime_errorString : TypeId := 10
abbrev Y.runtime_plainError : TypeId := 11
abbrev Y.uintptr : TypeId := 12
abbrev Y.runtime_errorAddressString : TypeId := 14
abbrev Y.int32 : TypeId := 21
abbrev Y.sl_uint8 : TypeId := 22
abbrev Y.sl_impl_Shift : TypeId := 24
abbrev Y.impl_Table : TypeId := 26
abbrev Y.sl_impl_Rule : TypeId := 35
abbrev Y.sl_impl_Zone : TypeId := 36
abbrev Y.sl_impl_Link : TypeId := 37
abbrev Y.impl_Source : TypeId := 39
abbrev Y.impl_Zone : TypeId := 44
abbrev Y.impl_Shift : TypeId := 52
abbrev Y.sl_laws_Rule : TypeId := 57
abbrev Y.sl_laws_Zone : TypeId := 58
abbrev Y.sl_laws_Link : TypeId := 59
abbrev Y.laws_Source : TypeId := 61
abbrev Y.impl_reader : TypeId := 75
abbrev Y.sl_int : TypeId := 80
abbrev Y.impl_On : TypeId := 88
abbrev Y.impl_Rule : TypeId := 90
abbrev Y.impl_Link : TypeId := 94
abbrev Y.sl_impl_setting : TypeId := 95
abbrev Y.impl_setting : TypeId := 98
abbrev Y.spec_l1Cur : TypeId := 120
abbrev Y.laws_On : TypeId := 132
abbrev Y.laws_Rule : TypeId := 134
abbrev Y.laws_Zone : TypeId := 136
abbrev Y.laws_Link : TypeId := 138
abbrev Y.uint : TypeId := 143
abbrev Y.uint32 : TypeId := 157
abbrev Y.abi_TFlag : TypeId := 158
abbrev Y.abi_Kind : TypeId := 159
abbrev Y.abi_NameOff : TypeId := 162
abbrev Y.abi_TypeOff : TypeId := 163

end Go.TL
