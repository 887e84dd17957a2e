/- The functions by name, and facts of the type table: printed by a program of this work out of the translation. No conditions. -/
import Derived.Test.YtneiifghegdfgaaProg
import Derived.Test.YtneiifghegdfgaaTGo3
import Derived.KernelRfl
namespace Go.TL
set_option linter.unusedSimpArgs false
open Go.Proofs Go.RowKit

@[go_sem] theorem t2_sz : szT Try.prog 2 = some 1 := by kernel_rfl
@[go_sem] theorem t2_by : bytesT Try.prog 2 = some 8 := by kernel_rfl
@[go_sem] theorem t2_ag : aggT Try.prog 2 = some false := by kernel_rfl
@[go_sem] theorem t2_ze : zeroT Try.prog 2 = some [.v (.int .i64 0)] := by kernel_rfl
@[go_sem] theorem t2_un : Try.prog.underlying 2 = some (.int .i64) := by kernel_rfl
@[go_sem] theorem t2_ec (m : Nat) (k : IntKind) (a b : Int) : eqC Try.prog (m + 1) 2 [.int k a] [.int k b] = some (decide (a = b)) := eqC_int t2_un k a b
@[go_sem] theorem t3_sz : szT Try.prog 3 = some 1 := by kernel_rfl
@[go_sem] theorem t3_by : bytesT Try.prog 3 = some 8 := by kernel_rfl
@[go_sem] theorem t3_ag : aggT Try.prog 3 = some false := by kernel_rfl
@[go_sem] theorem t3_ze : zeroT Try.prog 3 = some [.v (.int .i64 0)] := by kernel_rfl
@[go_sem] theorem t3_un : Try.prog.underlying 3 = some (.int .i64) := by kernel_rfl
@[go_sem] theorem t3_ec (m : Nat) (k : IntKind) (a b : Int) : eqC Try.prog (m + 1) 3 [.int k a] [.int k b] = some (decide (a = b)) := eqC_int t3_un k a b
@[go_sem] theorem t4_sz : szT Try.prog 4 = some 1 := by kernel_rfl
@[go_sem] theorem t4_by : bytesT Try.prog 4 = some 1 := by kernel_rfl
@[go_sem] theorem t4_ag : aggT Try.prog 4 = some false := by kernel_rfl
@[go_sem] theorem t4_ze : zeroT Try.prog 4 = some [.v (.bool false)] := by kernel_rfl
@[go_sem] theorem t4_un : Try.prog.underlying 4 = some .bool := by kernel_rfl
@[go_sem] theorem t4_ec (m : Nat) (a b : Bool) : eqC Try.prog (m + 1) 4 [.bool a] [.bool b] = some (a == b) := eqC_bool t4_un a b
@[go_sem] theorem t4_beq (xo yo : Operand) (p q : Prop) [Decidable p] [Decidable q] : binT Try.prog .eql 4 xo yo (.v (.bool (decide p))) (.v (.bool (decide q))) = some (.v (.bool (decide (p ↔ q)))) := b_beq xo yo t4_un p q
@[go_sem] theorem t4_bne (xo yo : Operand) (p q : Prop) [Decidable p] [Decidable q] : binT Try.prog .neq 4 xo yo (.v (.bool (decide p))) (.v (.bool (decide q))) = some (.v (.bool (decide (¬ (p ↔ q))))) := b_bne xo yo t4_un p q
@[go_sem] theorem t5_sz : szT Try.prog 5 = some 1 := by kernel_rfl
@[go_sem] theorem t5_by : bytesT Try.prog 5 = some 1 := by kernel_rfl
@[go_sem] theorem t5_ag : aggT Try.prog 5 = some false := by kernel_rfl
@[go_sem] theorem t5_ze : zeroT Try.prog 5 = some [.v (.int .u8 0)] := by kernel_rfl
@[go_sem] theorem t5_un : Try.prog.underlying 5 = some (.int .u8) := by kernel_rfl
@[go_sem] theorem t5_ec (m : Nat) (k : IntKind) (a b : Int) : eqC Try.prog (m + 1) 5 [.int k a] [.int k b] = some (decide (a = b)) := eqC_int t5_un k a b
@[go_sem] theorem t9_sz : szT Try.prog 9 = some 1 := by kernel_rfl
@[go_sem] theorem t9_by : bytesT Try.prog 9 = some 16 := by kernel_rfl
@[go_sem] theorem t9_ag : aggT Try.prog 9 = some false := by kernel_rfl
@[go_sem] theorem t9_ze : zeroT Try.prog 9 = some [.v (.string ⟨#[]⟩)] := by kernel_rfl
@[go_sem] theorem t9_un : Try.prog.underlying 9 = some .string := by kernel_rfl
@[go_sem] theorem t9_ec (m : Nat) (a b : ByteArray) : eqC Try.prog (m + 1) 9 [.string a] [.string b] = some (decide (a = b)) := eqC_str t9_un a b
@[go_sem] theorem t9_ni : notInt Try.prog 9 = true := by kernel_rfl
@[go_sem] theorem t12_sz : szT Try.prog 12 = some 1 := by kernel_rfl
@[go_sem] theorem t12_by : bytesT Try.prog 12 = some 8 := by kernel_rfl
@[go_sem] theorem t12_ag : aggT Try.prog 12 = some false := by kernel_rfl
@[go_sem] theorem t12_ze : zeroT Try.prog 12 = some [.v (.int .u64 0)] := by kernel_rfl
@[go_sem] theorem t12_un : Try.prog.underlying 12 = some (.int .u64) := by kernel_rfl
@[go_sem] theorem t12_ec (m : Nat) (k : IntKind) (a b : Int) : eqC Try.prog (m + 1) 12 [.int k a] [.int k b] = some (decide (a = b)) := eqC_int t12_un k a b
@[go_sem] theorem t13_sz : szT Try.prog 13 = some 2 := by kernel_rfl
@[go_sem] theorem t13_by : bytesT Try.prog 13 = some 24 := by kernel_rfl
@[go_sem] theorem t13_ag : aggT Try.prog 13 = some true := by kernel_rfl
@[go_sem] theorem t13_ze : zeroT Try.prog 13 = some [.v (.string ⟨#[]⟩), .v (.int .u64 0)] := by kernel_rfl
@[go_sem] theorem t13_f0 : fldT Try.prog 13 0 = some (0, 1, 9) := by kernel_rfl
@[go_sem] theorem t13_f1 : fldT Try.prog 13 1 = some (1, 1, 12) := by kernel_rfl
@[go_sem] theorem t13_fo : fldsOf Try.prog 13 = some [(0, 1), (1, 1)] := by kernel_rfl
@[go_sem] theorem t21_sz : szT Try.prog 21 = some 1 := by kernel_rfl
@[go_sem] theorem t21_by : bytesT Try.prog 21 = some 4 := by kernel_rfl
@[go_sem] theorem t21_ag : aggT Try.prog 21 = some false := by kernel_rfl
@[go_sem] theorem t21_ze : zeroT Try.prog 21 = some [.v (.int .i32 0)] := by kernel_rfl
@[go_sem] theorem t21_un : Try.prog.underlying 21 = some (.int .i32) := by kernel_rfl
@[go_sem] theorem t21_ec (m : Nat) (k : IntKind) (a b : Int) : eqC Try.prog (m + 1) 21 [.int k a] [.int k b] = some (decide (a = b)) := eqC_int t21_un k a b
@[go_sem] theorem t22_sz : szT Try.prog 22 = some 1 := by kernel_rfl
@[go_sem] theorem t22_by : bytesT Try.prog 22 = some 24 := by kernel_rfl
@[go_sem] theorem t22_ag : aggT Try.prog 22 = some false := by kernel_rfl
@[go_sem] theorem t22_ze : zeroT Try.prog 22 = some [.v (.slice none 0 0)] := by kernel_rfl
@[go_sem] theorem t22_el : elemT Try.prog 22 = some 102 := by kernel_rfl
@[go_sem] theorem t22_un : Try.prog.underlying 22 = some (.slice 102) := by kernel_rfl
@[go_sem] theorem t22_ni : notInt Try.prog 22 = true := by kernel_rfl
@[go_sem] theorem t24_sz : szT Try.prog 24 = some 1 := by kernel_rfl
@[go_sem] theorem t24_by : bytesT Try.prog 24 = some 24 := by kernel_rfl
@[go_sem] theorem t24_ag : aggT Try.prog 24 = some false := by kernel_rfl
@[go_sem] theorem t24_ze : zeroT Try.prog 24 = some [.v (.slice none 0 0)] := by kernel_rfl
@[go_sem] theorem t24_el : elemT Try.prog 24 = some 72 := by kernel_rfl
@[go_sem] theorem t24_un : Try.prog.underlying 24 = some (.slice 72) := by kernel_rfl
@[go_sem] theorem t24_ni : notInt Try.prog 24 = true := by kernel_rfl
@[go_sem] theorem t31_sz : szT Try.prog 31 = some 1 := by kernel_rfl
@[go_sem] theorem t31_by : bytesT Try.prog 31 = some 24 := by kernel_rfl
@[go_sem] theorem t31_ag : aggT Try.prog 31 = some false := by kernel_rfl
@[go_sem] theorem t31_ze : zeroT Try.prog 31 = some [.v (.slice none 0 0)] := by kernel_rfl
@[go_sem] theorem t31_el : elemT Try.prog 31 = some 5 := by kernel_rfl
@[go_sem] theorem t31_un : Try.prog.underlying 31 = some (.slice 5) := by kernel_rfl
@[go_sem] theorem t31_ni : notInt Try.prog 31 = true := by kernel_rfl
@[go_sem] theorem t31_bs : byteSlice Try.prog 31 = true := by kernel_rfl
@[go_sem] theorem t33_sz : szT Try.prog 33 = some 1 := by kernel_rfl
@[go_sem] theorem t33_by : bytesT Try.prog 33 = some 24 := by kernel_rfl
@[go_sem] theorem t33_ag : aggT Try.prog 33 = some false := by kernel_rfl
@[go_sem] theorem t33_ze : zeroT Try.prog 33 = some [.v (.slice none 0 0)] := by kernel_rfl
@[go_sem] theorem t33_el : elemT Try.prog 33 = some 61 := by kernel_rfl
@[go_sem] theorem t33_un : Try.prog.underlying 33 = some (.slice 61) := by kernel_rfl
@[go_sem] theorem t33_ni : notInt Try.prog 33 = true := by kernel_rfl
@[go_sem] theorem t34_sz : szT Try.prog 34 = some 2 := by kernel_rfl
@[go_sem] theorem t34_by : bytesT Try.prog 34 = some 32 := by kernel_rfl
@[go_sem] theorem t34_ag : aggT Try.prog 34 = some true := by kernel_rfl
@[go_sem] theorem t34_ze : zeroT Try.prog 34 = some [.v (.int .i64 0), .v (.slice none 0 0)] := by kernel_rfl
@[go_sem] theorem t34_f0 : fldT Try.prog 34 0 = some (0, 1, 3) := by kernel_rfl
@[go_sem] theorem t34_f1 : fldT Try.prog 34 1 = some (1, 1, 33) := by kernel_rfl
@[go_sem] theorem t34_fo : fldsOf Try.prog 34 = some [(0, 1), (1, 1)] := by kernel_rfl
@[go_sem] theorem t35_sz : szT Try.prog 35 = some 2 := by kernel_rfl
@[go_sem] theorem t35_by : bytesT Try.prog 35 = some 32 := by kernel_rfl
@[go_sem] theorem t35_ag : aggT Try.prog 35 = some true := by kernel_rfl
@[go_sem] theorem t35_ze : zeroT Try.prog 35 = some [.v (.int .i64 0), .v (.slice none 0 0)] := by kernel_rfl
@[go_sem] theorem t35_f0 : fldT Try.prog 35 0 = some (0, 1, 3) := by kernel_rfl
@[go_sem] theorem t35_f1 : fldT Try.prog 35 1 = some (1, 1, 33) := by kernel_rfl
@[go_sem] theorem t35_fo : fldsOf Try.prog 35 = some [(0, 1), (1, 1)] := by kernel_rfl
@[go_sem] theorem t44_sz : szT Try.prog 44 = some 1 := by kernel_rfl
@[go_sem] theorem t44_by : bytesT Try.prog 44 = some 24 := by kernel_rfl
@[go_sem] theorem t44_ag : aggT Try.prog 44 = some false := by kernel_rfl
@[go_sem] theorem t44_ze : zeroT Try.prog 44 = some [.v (.slice none 0 0)] := by kernel_rfl
@[go_sem] theorem t44_el : elemT Try.prog 44 = some 136 := by kernel_rfl
@[go_sem] theorem t44_un : Try.prog.underlying 44 = some (.slice 136) := by kernel_rfl
@[go_sem] theorem t44_ni : notInt Try.prog 44 = true := by kernel_rfl
@[go_sem] theorem t45_sz : szT Try.prog 45 = some 1 := by kernel_rfl
@[go_sem] theorem t45_by : bytesT Try.prog 45 = some 24 := by kernel_rfl
@[go_sem] theorem t45_ag : aggT Try.prog 45 = some false := by kernel_rfl
@[go_sem] theorem t45_ze : zeroT Try.prog 45 = some [.v (.slice none 0 0)] := by kernel_rfl
@[go_sem] theorem t45_el : elemT Try.prog 45 = some 53 := by kernel_rfl
@[go_sem] theorem t45_un : Try.prog.underlying 45 = some (.slice 53) := by kernel_rfl
@[go_sem] theorem t45_ni : notInt Try.prog 45 = true := by kernel_rfl
@[go_sem] theorem t46_sz : szT Try.prog 46 = some 1 := by kernel_rfl
@[go_sem] theorem t46_by : bytesT Try.prog 46 = some 24 := by kernel_rfl
@[go_sem] theorem t46_ag : aggT Try.prog 46 = some false := by kernel_rfl
@[go_sem] theorem t46_ze : zeroT Try.prog 46 = some [.v (.slice none 0 0)] := by kernel_rfl
@[go_sem] theorem t46_el : elemT Try.prog 46 = some 140 := by kernel_rfl
@[go_sem] theorem t46_un : Try.prog.underlying 46 = some (.slice 140) := by kernel_rfl
@[go_sem] theorem t46_ni : notInt Try.prog 46 = true := by kernel_rfl
@[go_sem] theorem t47_sz : szT Try.prog 47 = some 3 := by kernel_rfl
@[go_sem] theorem t47_by : bytesT Try.prog 47 = some 72 := by kernel_rfl
@[go_sem] theorem t47_ag : aggT Try.prog 47 = some true := by kernel_rfl
@[go_sem] theorem t47_ze : zeroT Try.prog 47 = some [.v (.slice none 0 0), .v (.slice none 0 0), .v (.slice none 0 0)] := by kernel_rfl
@[go_sem] theorem t47_f0 : fldT Try.prog 47 0 = some (0, 1, 44) := by kernel_rfl
@[go_sem] theorem t47_f1 : fldT Try.prog 47 1 = some (1, 1, 45) := by kernel_rfl
@[go_sem] theorem t47_f2 : fldT Try.prog 47 2 = some (2, 1, 46) := by kernel_rfl
@[go_sem] theorem t47_fo : fldsOf Try.prog 47 = some [(0, 1), (1, 1), (2, 1)] := by kernel_rfl
@[go_sem] theorem t48_sz : szT Try.prog 48 = some 3 := by kernel_rfl
@[go_sem] theorem t48_by : bytesT Try.prog 48 = some 72 := by kernel_rfl
@[go_sem] theorem t48_ag : aggT Try.prog 48 = some true := by kernel_rfl
@[go_sem] theorem t48_ze : zeroT Try.prog 48 = some [.v (.slice none 0 0), .v (.slice none 0 0), .v (.slice none 0 0)] := by kernel_rfl
@[go_sem] theorem t48_f0 : fldT Try.prog 48 0 = some (0, 1, 44) := by kernel_rfl
@[go_sem] theorem t48_f1 : fldT Try.prog 48 1 = some (1, 1, 45) := by kernel_rfl
@[go_sem] theorem t48_f2 : fldT Try.prog 48 2 = some (2, 1, 46) := by kernel_rfl
@[go_sem] theorem t48_fo : fldsOf Try.prog 48 = some [(0, 1), (1, 1), (2, 1)] := by kernel_rfl
@[go_sem] theorem t52_sz : szT Try.prog 52 = some 3 := by kernel_rfl
@[go_sem] theorem t52_by : bytesT Try.prog 52 = some 24 := by kernel_rfl
@[go_sem] theorem t52_ag : aggT Try.prog 52 = some true := by kernel_rfl
@[go_sem] theorem t52_ze : zeroT Try.prog 52 = some [.v (.int .i64 0), .v (.int .i64 0), .v (.int .i64 0)] := by kernel_rfl
@[go_sem] theorem t52_f0 : fldT Try.prog 52 0 = some (0, 1, 3) := by kernel_rfl
@[go_sem] theorem t52_f1 : fldT Try.prog 52 1 = some (1, 1, 3) := by kernel_rfl
@[go_sem] theorem t52_f2 : fldT Try.prog 52 2 = some (2, 1, 3) := by kernel_rfl
@[go_sem] theorem t52_fo : fldsOf Try.prog 52 = some [(0, 1), (1, 1), (2, 1)] := by kernel_rfl
@[go_sem] theorem t53_sz : szT Try.prog 53 = some 3 := by kernel_rfl
@[go_sem] theorem t53_by : bytesT Try.prog 53 = some 24 := by kernel_rfl
@[go_sem] theorem t53_ag : aggT Try.prog 53 = some true := by kernel_rfl
@[go_sem] theorem t53_ze : zeroT Try.prog 53 = some [.v (.int .i64 0), .v (.int .i64 0), .v (.int .i64 0)] := by kernel_rfl
@[go_sem] theorem t53_f0 : fldT Try.prog 53 0 = some (0, 1, 3) := by kernel_rfl
@[go_sem] theorem t53_f1 : fldT Try.prog 53 1 = some (1, 1, 3) := by kernel_rfl
@[go_sem] theorem t53_f2 : fldT Try.prog 53 2 = some (2, 1, 3) := by kernel_rfl
@[go_sem] theorem t53_fo : fldsOf Try.prog 53 = some [(0, 1), (1, 1), (2, 1)] := by kernel_rfl
@[go_sem] theorem t53_eg : Try.prog.eqGuardType Try.prog.depth 53 = false := by kernel_rfl
@[go_sem] theorem t53_fl : eqFlds Try.prog 53 = some [(3, 0), (3, 1), (3, 2)] := by kernel_rfl
@[go_sem] theorem t53_eq (neg : Bool) (xs ys : List T) : eqAggT Try.prog neg 53 (.agg xs) (.agg ys) = (match toVs xs, toVs ys with | some us, some ws => (eqL Try.prog 19 [(3, 0), (3, 1), (3, 2)] us ws).map fun b => .v (.bool (if neg = true then !b else b)) | _, _ => none) := eqAgg_t t53_eg t53_ag t53_fl neg xs ys
@[go_sem] theorem t60_sz : szT Try.prog 60 = some 2 := by kernel_rfl
@[go_sem] theorem t60_by : bytesT Try.prog 60 = some 16 := by kernel_rfl
@[go_sem] theorem t60_ag : aggT Try.prog 60 = some true := by kernel_rfl
@[go_sem] theorem t60_ze : zeroT Try.prog 60 = some [.v (.int .i64 0), .v (.int .i64 0)] := by kernel_rfl
@[go_sem] theorem t60_f0 : fldT Try.prog 60 0 = some (0, 1, 3) := by kernel_rfl
@[go_sem] theorem t60_f1 : fldT Try.prog 60 1 = some (1, 1, 3) := by kernel_rfl
@[go_sem] theorem t60_fo : fldsOf Try.prog 60 = some [(0, 1), (1, 1)] := by kernel_rfl
@[go_sem] theorem t61_sz : szT Try.prog 61 = some 2 := by kernel_rfl
@[go_sem] theorem t61_by : bytesT Try.prog 61 = some 16 := by kernel_rfl
@[go_sem] theorem t61_ag : aggT Try.prog 61 = some true := by kernel_rfl
@[go_sem] theorem t61_ze : zeroT Try.prog 61 = some [.v (.int .i64 0), .v (.int .i64 0)] := by kernel_rfl
@[go_sem] theorem t61_f0 : fldT Try.prog 61 0 = some (0, 1, 3) := by kernel_rfl
@[go_sem] theorem t61_f1 : fldT Try.prog 61 1 = some (1, 1, 3) := by kernel_rfl
@[go_sem] theorem t61_fo : fldsOf Try.prog 61 = some [(0, 1), (1, 1)] := by kernel_rfl
@[go_sem] theorem t61_eg : Try.prog.eqGuardType Try.prog.depth 61 = false := by kernel_rfl
@[go_sem] theorem t61_fl : eqFlds Try.prog 61 = some [(3, 0), (3, 1)] := by kernel_rfl
@[go_sem] theorem t61_eq (neg : Bool) (xs ys : List T) : eqAggT Try.prog neg 61 (.agg xs) (.agg ys) = (match toVs xs, toVs ys with | some us, some ws => (eqL Try.prog 19 [(3, 0), (3, 1)] us ws).map fun b => .v (.bool (if neg = true then !b else b)) | _, _ => none) := eqAgg_t t61_eg t61_ag t61_fl neg xs ys
@[go_sem] theorem t68_sz : szT Try.prog 68 = some 1 := by kernel_rfl
@[go_sem] theorem t68_by : bytesT Try.prog 68 = some 24 := by kernel_rfl
@[go_sem] theorem t68_ag : aggT Try.prog 68 = some false := by kernel_rfl
@[go_sem] theorem t68_ze : zeroT Try.prog 68 = some [.v (.slice none 0 0)] := by kernel_rfl
@[go_sem] theorem t68_el : elemT Try.prog 68 = some 9 := by kernel_rfl
@[go_sem] theorem t68_un : Try.prog.underlying 68 = some (.slice 9) := by kernel_rfl
@[go_sem] theorem t68_ni : notInt Try.prog 68 = true := by kernel_rfl
@[go_sem] theorem t69_sz : szT Try.prog 69 = some 3 := by kernel_rfl
@[go_sem] theorem t69_by : bytesT Try.prog 69 = some 48 := by kernel_rfl
@[go_sem] theorem t69_ag : aggT Try.prog 69 = some true := by kernel_rfl
@[go_sem] theorem t69_ze : zeroT Try.prog 69 = some [.v (.int .i64 0), .v (.string ⟨#[]⟩), .v (.slice none 0 0)] := by kernel_rfl
@[go_sem] theorem t69_f0 : fldT Try.prog 69 0 = some (0, 1, 3) := by kernel_rfl
@[go_sem] theorem t69_f1 : fldT Try.prog 69 1 = some (1, 1, 9) := by kernel_rfl
@[go_sem] theorem t69_f2 : fldT Try.prog 69 2 = some (2, 1, 68) := by kernel_rfl
@[go_sem] theorem t69_fo : fldsOf Try.prog 69 = some [(0, 1), (1, 1), (2, 1)] := by kernel_rfl
@[go_sem] theorem t70_sz : szT Try.prog 70 = some 3 := by kernel_rfl
@[go_sem] theorem t70_by : bytesT Try.prog 70 = some 48 := by kernel_rfl
@[go_sem] theorem t70_ag : aggT Try.prog 70 = some true := by kernel_rfl
@[go_sem] theorem t70_ze : zeroT Try.prog 70 = some [.v (.int .i64 0), .v (.string ⟨#[]⟩), .v (.slice none 0 0)] := by kernel_rfl
@[go_sem] theorem t70_f0 : fldT Try.prog 70 0 = some (0, 1, 3) := by kernel_rfl
@[go_sem] theorem t70_f1 : fldT Try.prog 70 1 = some (1, 1, 9) := by kernel_rfl
@[go_sem] theorem t70_f2 : fldT Try.prog 70 2 = some (2, 1, 68) := by kernel_rfl
@[go_sem] theorem t70_fo : fldsOf Try.prog 70 = some [(0, 1), (1, 1), (2, 1)] := by kernel_rfl
@[go_sem] theorem t71_sz : szT Try.prog 71 = some 4 := by kernel_rfl
@[go_sem] theorem t71_by : bytesT Try.prog 71 = some 56 := by kernel_rfl
@[go_sem] theorem t71_ag : aggT Try.prog 71 = some true := by kernel_rfl
@[go_sem] theorem t71_ze : zeroT Try.prog 71 = some [.v (.int .i64 0), .v (.int .i64 0), .v (.string ⟨#[]⟩), .v (.slice none 0 0)] := by kernel_rfl
@[go_sem] theorem t71_f0 : fldT Try.prog 71 0 = some (0, 1, 3) := by kernel_rfl
@[go_sem] theorem t71_f1 : fldT Try.prog 71 1 = some (1, 3, 70) := by kernel_rfl
@[go_sem] theorem t71_fo : fldsOf Try.prog 71 = some [(0, 1), (1, 3)] := by kernel_rfl
@[go_sem] theorem t72_sz : szT Try.prog 72 = some 4 := by kernel_rfl
@[go_sem] theorem t72_by : bytesT Try.prog 72 = some 56 := by kernel_rfl
@[go_sem] theorem t72_ag : aggT Try.prog 72 = some true := by kernel_rfl
@[go_sem] theorem t72_ze : zeroT Try.prog 72 = some [.v (.int .i64 0), .v (.int .i64 0), .v (.string ⟨#[]⟩), .v (.slice none 0 0)] := by kernel_rfl
@[go_sem] theorem t72_f0 : fldT Try.prog 72 0 = some (0, 1, 3) := by kernel_rfl
@[go_sem] theorem t72_f1 : fldT Try.prog 72 1 = some (1, 3, 70) := by kernel_rfl
@[go_sem] theorem t72_fo : fldsOf Try.prog 72 = some [(0, 1), (1, 3)] := by kernel_rfl
@[go_sem] theorem t74_sz : szT Try.prog 74 = some 1 := by kernel_rfl
@[go_sem] theorem t74_by : bytesT Try.prog 74 = some 24 := by kernel_rfl
@[go_sem] theorem t74_ag : aggT Try.prog 74 = some false := by kernel_rfl
@[go_sem] theorem t74_ze : zeroT Try.prog 74 = some [.v (.slice none 0 0)] := by kernel_rfl
@[go_sem] theorem t74_el : elemT Try.prog 74 = some 199 := by kernel_rfl
@[go_sem] theorem t74_un : Try.prog.underlying 74 = some (.slice 199) := by kernel_rfl
@[go_sem] theorem t74_ni : notInt Try.prog 74 = true := by kernel_rfl
@[go_sem] theorem t75_sz : szT Try.prog 75 = some 2 := by kernel_rfl
@[go_sem] theorem t75_by : bytesT Try.prog 75 = some 32 := by kernel_rfl
@[go_sem] theorem t75_ag : aggT Try.prog 75 = some true := by kernel_rfl
@[go_sem] theorem t75_ze : zeroT Try.prog 75 = some [.v (.int .i64 0), .v (.slice none 0 0)] := by kernel_rfl
@[go_sem] theorem t75_f0 : fldT Try.prog 75 0 = some (0, 1, 3) := by kernel_rfl
@[go_sem] theorem t75_f1 : fldT Try.prog 75 1 = some (1, 1, 74) := by kernel_rfl
@[go_sem] theorem t75_fo : fldsOf Try.prog 75 = some [(0, 1), (1, 1)] := by kernel_rfl
@[go_sem] theorem t76_sz : szT Try.prog 76 = some 2 := by kernel_rfl
@[go_sem] theorem t76_by : bytesT Try.prog 76 = some 32 := by kernel_rfl
@[go_sem] theorem t76_ag : aggT Try.prog 76 = some true := by kernel_rfl
@[go_sem] theorem t76_ze : zeroT Try.prog 76 = some [.v (.int .i64 0), .v (.slice none 0 0)] := by kernel_rfl
@[go_sem] theorem t76_f0 : fldT Try.prog 76 0 = some (0, 1, 3) := by kernel_rfl
@[go_sem] theorem t76_f1 : fldT Try.prog 76 1 = some (1, 1, 74) := by kernel_rfl
@[go_sem] theorem t76_fo : fldsOf Try.prog 76 = some [(0, 1), (1, 1)] := by kernel_rfl
@[go_sem] theorem t80_sz : szT Try.prog 80 = some 1 := by kernel_rfl
@[go_sem] theorem t80_by : bytesT Try.prog 80 = some 24 := by kernel_rfl
@[go_sem] theorem t80_ag : aggT Try.prog 80 = some false := by kernel_rfl
@[go_sem] theorem t80_ze : zeroT Try.prog 80 = some [.v (.slice none 0 0)] := by kernel_rfl
@[go_sem] theorem t80_el : elemT Try.prog 80 = some 210 := by kernel_rfl
@[go_sem] theorem t80_un : Try.prog.underlying 80 = some (.slice 210) := by kernel_rfl
@[go_sem] theorem t80_ni : notInt Try.prog 80 = true := by kernel_rfl
@[go_sem] theorem t81_sz : szT Try.prog 81 = some 1 := by kernel_rfl
@[go_sem] theorem t81_by : bytesT Try.prog 81 = some 24 := by kernel_rfl
@[go_sem] theorem t81_ag : aggT Try.prog 81 = some false := by kernel_rfl
@[go_sem] theorem t81_ze : zeroT Try.prog 81 = some [.v (.slice none 0 0)] := by kernel_rfl
@[go_sem] theorem t81_el : elemT Try.prog 81 = some 212 := by kernel_rfl
@[go_sem] theorem t81_un : Try.prog.underlying 81 = some (.slice 212) := by kernel_rfl
@[go_sem] theorem t81_ni : notInt Try.prog 81 = true := by kernel_rfl
@[go_sem] theorem t82_sz : szT Try.prog 82 = some 1 := by kernel_rfl
@[go_sem] theorem t82_by : bytesT Try.prog 82 = some 24 := by kernel_rfl
@[go_sem] theorem t82_ag : aggT Try.prog 82 = some false := by kernel_rfl
@[go_sem] theorem t82_ze : zeroT Try.prog 82 = some [.v (.slice none 0 0)] := by kernel_rfl
@[go_sem] theorem t82_el : elemT Try.prog 82 = some 214 := by kernel_rfl
@[go_sem] theorem t82_un : Try.prog.underlying 82 = some (.slice 214) := by kernel_rfl
@[go_sem] theorem t82_ni : notInt Try.prog 82 = true := by kernel_rfl
@[go_sem] theorem t83_sz : szT Try.prog 83 = some 3 := by kernel_rfl
@[go_sem] theorem t83_by : bytesT Try.prog 83 = some 72 := by kernel_rfl
@[go_sem] theorem t83_ag : aggT Try.prog 83 = some true := by kernel_rfl
@[go_sem] theorem t83_ze : zeroT Try.prog 83 = some [.v (.slice none 0 0), .v (.slice none 0 0), .v (.slice none 0 0)] := by kernel_rfl
@[go_sem] theorem t83_f0 : fldT Try.prog 83 0 = some (0, 1, 80) := by kernel_rfl
@[go_sem] theorem t83_f1 : fldT Try.prog 83 1 = some (1, 1, 81) := by kernel_rfl
@[go_sem] theorem t83_f2 : fldT Try.prog 83 2 = some (2, 1, 82) := by kernel_rfl
@[go_sem] theorem t83_fo : fldsOf Try.prog 83 = some [(0, 1), (1, 1), (2, 1)] := by kernel_rfl
@[go_sem] theorem t84_sz : szT Try.prog 84 = some 3 := by kernel_rfl
@[go_sem] theorem t84_by : bytesT Try.prog 84 = some 72 := by kernel_rfl
@[go_sem] theorem t84_ag : aggT Try.prog 84 = some true := by kernel_rfl
@[go_sem] theorem t84_ze : zeroT Try.prog 84 = some [.v (.slice none 0 0), .v (.slice none 0 0), .v (.slice none 0 0)] := by kernel_rfl
@[go_sem] theorem t84_f0 : fldT Try.prog 84 0 = some (0, 1, 80) := by kernel_rfl
@[go_sem] theorem t84_f1 : fldT Try.prog 84 1 = some (1, 1, 81) := by kernel_rfl
@[go_sem] theorem t84_f2 : fldT Try.prog 84 2 = some (2, 1, 82) := by kernel_rfl
@[go_sem] theorem t84_fo : fldsOf Try.prog 84 = some [(0, 1), (1, 1), (2, 1)] := by kernel_rfl
@[go_sem] theorem t91_sz : szT Try.prog 91 = some 1 := by kernel_rfl
@[go_sem] theorem t91_by : bytesT Try.prog 91 = some 24 := by kernel_rfl
@[go_sem] theorem t91_ag : aggT Try.prog 91 = some false := by kernel_rfl
@[go_sem] theorem t91_ze : zeroT Try.prog 91 = some [.v (.slice none 0 0)] := by kernel_rfl
@[go_sem] theorem t91_el : elemT Try.prog 91 = some 220 := by kernel_rfl
@[go_sem] theorem t91_un : Try.prog.underlying 91 = some (.slice 220) := by kernel_rfl
@[go_sem] theorem t91_ni : notInt Try.prog 91 = true := by kernel_rfl
@[go_sem] theorem t92_sz : szT Try.prog 92 = some 2 := by kernel_rfl
@[go_sem] theorem t92_by : bytesT Try.prog 92 = some 32 := by kernel_rfl
@[go_sem] theorem t92_ag : aggT Try.prog 92 = some true := by kernel_rfl
@[go_sem] theorem t92_ze : zeroT Try.prog 92 = some [.v (.int .i64 0), .v (.slice none 0 0)] := by kernel_rfl
@[go_sem] theorem t92_f0 : fldT Try.prog 92 0 = some (0, 1, 3) := by kernel_rfl
@[go_sem] theorem t92_f1 : fldT Try.prog 92 1 = some (1, 1, 91) := by kernel_rfl
@[go_sem] theorem t92_fo : fldsOf Try.prog 92 = some [(0, 1), (1, 1)] := by kernel_rfl
@[go_sem] theorem t93_sz : szT Try.prog 93 = some 2 := by kernel_rfl
@[go_sem] theorem t93_by : bytesT Try.prog 93 = some 32 := by kernel_rfl
@[go_sem] theorem t93_ag : aggT Try.prog 93 = some true := by kernel_rfl
@[go_sem] theorem t93_ze : zeroT Try.prog 93 = some [.v (.int .i64 0), .v (.slice none 0 0)] := by kernel_rfl
@[go_sem] theorem t93_f0 : fldT Try.prog 93 0 = some (0, 1, 3) := by kernel_rfl
@[go_sem] theorem t93_f1 : fldT Try.prog 93 1 = some (1, 1, 91) := by kernel_rfl
@[go_sem] theorem t93_fo : fldsOf Try.prog 93 = some [(0, 1), (1, 1)] := by kernel_rfl
@[go_sem] theorem t100_sz : szT Try.prog 100 = some 3 := by kernel_rfl
@[go_sem] theorem t100_by : bytesT Try.prog 100 = some 48 := by kernel_rfl
@[go_sem] theorem t100_ag : aggT Try.prog 100 = some true := by kernel_rfl
@[go_sem] theorem t100_ze : zeroT Try.prog 100 = some [.v (.int .i64 0), .v (.string ⟨#[]⟩), .v (.slice none 0 0)] := by kernel_rfl
@[go_sem] theorem t100_f0 : fldT Try.prog 100 0 = some (0, 1, 3) := by kernel_rfl
@[go_sem] theorem t100_f1 : fldT Try.prog 100 1 = some (1, 1, 9) := by kernel_rfl
@[go_sem] theorem t100_f2 : fldT Try.prog 100 2 = some (2, 1, 68) := by kernel_rfl
@[go_sem] theorem t100_fo : fldsOf Try.prog 100 = some [(0, 1), (1, 1), (2, 1)] := by kernel_rfl
@[go_sem] theorem t101_sz : szT Try.prog 101 = some 4 := by kernel_rfl
@[go_sem] theorem t101_by : bytesT Try.prog 101 = some 56 := by kernel_rfl
@[go_sem] theorem t101_ag : aggT Try.prog 101 = some true := by kernel_rfl
@[go_sem] theorem t101_ze : zeroT Try.prog 101 = some [.v (.int .i64 0), .v (.int .i64 0), .v (.string ⟨#[]⟩), .v (.slice none 0 0)] := by kernel_rfl
@[go_sem] theorem t101_f0 : fldT Try.prog 101 0 = some (0, 1, 3) := by kernel_rfl
@[go_sem] theorem t101_f1 : fldT Try.prog 101 1 = some (1, 3, 100) := by kernel_rfl
@[go_sem] theorem t101_fo : fldsOf Try.prog 101 = some [(0, 1), (1, 3)] := by kernel_rfl
@[go_sem] theorem t102_sz : szT Try.prog 102 = some 4 := by kernel_rfl
@[go_sem] theorem t102_by : bytesT Try.prog 102 = some 56 := by kernel_rfl
@[go_sem] theorem t102_ag : aggT Try.prog 102 = some true := by kernel_rfl
@[go_sem] theorem t102_ze : zeroT Try.prog 102 = some [.v (.int .i64 0), .v (.int .i64 0), .v (.string ⟨#[]⟩), .v (.slice none 0 0)] := by kernel_rfl
@[go_sem] theorem t102_f0 : fldT Try.prog 102 0 = some (0, 1, 3) := by kernel_rfl
@[go_sem] theorem t102_f1 : fldT Try.prog 102 1 = some (1, 3, 100) := by kernel_rfl
@[go_sem] theorem t102_fo : fldsOf Try.prog 102 = some [(0, 1), (1, 3)] := by kernel_rfl
@[go_sem] theorem t120_sz : szT Try.prog 120 = some 3 := by kernel_rfl
@[go_sem] theorem t120_by : bytesT Try.prog 120 = some 40 := by kernel_rfl
@[go_sem] theorem t120_ag : aggT Try.prog 120 = some true := by kernel_rfl
@[go_sem] theorem t120_ze : zeroT Try.prog 120 = some [.v (.slice none 0 0), .v (.int .i64 0), .v (.bool false)] := by kernel_rfl
@[go_sem] theorem t120_f0 : fldT Try.prog 120 0 = some (0, 1, 31) := by kernel_rfl
@[go_sem] theorem t120_f1 : fldT Try.prog 120 1 = some (1, 1, 3) := by kernel_rfl
@[go_sem] theorem t120_f2 : fldT Try.prog 120 2 = some (2, 1, 4) := by kernel_rfl
@[go_sem] theorem t120_fo : fldsOf Try.prog 120 = some [(0, 1), (1, 1), (2, 1)] := by kernel_rfl
@[go_sem] theorem t121_sz : szT Try.prog 121 = some 3 := by kernel_rfl
@[go_sem] theorem t121_by : bytesT Try.prog 121 = some 40 := by kernel_rfl
@[go_sem] theorem t121_ag : aggT Try.prog 121 = some true := by kernel_rfl
@[go_sem] theorem t121_ze : zeroT Try.prog 121 = some [.v (.slice none 0 0), .v (.int .i64 0), .v (.bool false)] := by kernel_rfl
@[go_sem] theorem t121_f0 : fldT Try.prog 121 0 = some (0, 1, 31) := by kernel_rfl
@[go_sem] theorem t121_f1 : fldT Try.prog 121 1 = some (1, 1, 3) := by kernel_rfl
@[go_sem] theorem t121_f2 : fldT Try.prog 121 2 = some (2, 1, 4) := by kernel_rfl
@[go_sem] theorem t121_fo : fldsOf Try.prog 121 = some [(0, 1), (1, 1), (2, 1)] := by kernel_rfl
@[go_sem] theorem t126_sz : szT Try.prog 126 = some 1 := by kernel_rfl
@[go_sem] theorem t126_by : bytesT Try.prog 126 = some 24 := by kernel_rfl
@[go_sem] theorem t126_ag : aggT Try.prog 126 = some false := by kernel_rfl
@[go_sem] theorem t126_ze : zeroT Try.prog 126 = some [.v (.slice none 0 0)] := by kernel_rfl
@[go_sem] theorem t126_el : elemT Try.prog 126 = some 3 := by kernel_rfl
@[go_sem] theorem t126_un : Try.prog.underlying 126 = some (.slice 3) := by kernel_rfl
@[go_sem] theorem t126_ni : notInt Try.prog 126 = true := by kernel_rfl
@[go_sem] theorem t133_sz : szT Try.prog 133 = some 3 := by kernel_rfl
@[go_sem] theorem t133_by : bytesT Try.prog 133 = some 24 := by kernel_rfl
@[go_sem] theorem t133_ag : aggT Try.prog 133 = some true := by kernel_rfl
@[go_sem] theorem t133_ze : zeroT Try.prog 133 = some [.v (.int .i64 0), .v (.int .i64 0), .v (.int .i64 0)] := by kernel_rfl
@[go_sem] theorem t133_f0 : fldT Try.prog 133 0 = some (0, 1, 3) := by kernel_rfl
@[go_sem] theorem t133_f1 : fldT Try.prog 133 1 = some (1, 1, 3) := by kernel_rfl
@[go_sem] theorem t133_f2 : fldT Try.prog 133 2 = some (2, 1, 3) := by kernel_rfl
@[go_sem] theorem t133_fo : fldsOf Try.prog 133 = some [(0, 1), (1, 1), (2, 1)] := by kernel_rfl
@[go_sem] theorem t134_sz : szT Try.prog 134 = some 3 := by kernel_rfl
@[go_sem] theorem t134_by : bytesT Try.prog 134 = some 24 := by kernel_rfl
@[go_sem] theorem t134_ag : aggT Try.prog 134 = some true := by kernel_rfl
@[go_sem] theorem t134_ze : zeroT Try.prog 134 = some [.v (.int .i64 0), .v (.int .i64 0), .v (.int .i64 0)] := by kernel_rfl
@[go_sem] theorem t134_f0 : fldT Try.prog 134 0 = some (0, 1, 3) := by kernel_rfl
@[go_sem] theorem t134_f1 : fldT Try.prog 134 1 = some (1, 1, 3) := by kernel_rfl
@[go_sem] theorem t134_f2 : fldT Try.prog 134 2 = some (2, 1, 3) := by kernel_rfl
@[go_sem] theorem t134_fo : fldsOf Try.prog 134 = some [(0, 1), (1, 1), (2, 1)] := by kernel_rfl
@[go_sem] theorem t134_eg : Try.prog.eqGuardType Try.prog.depth 134 = false := by kernel_rfl
@[go_sem] theorem t134_fl : eqFlds Try.prog 134 = some [(3, 0), (3, 1), (3, 2)] := by kernel_rfl
@[go_sem] theorem t134_eq (neg : Bool) (xs ys : List T) : eqAggT Try.prog neg 134 (.agg xs) (.agg ys) = (match toVs xs, toVs ys with | some us, some ws => (eqL Try.prog 19 [(3, 0), (3, 1), (3, 2)] us ws).map fun b => .v (.bool (if neg = true then !b else b)) | _, _ => none) := eqAgg_t t134_eg t134_ag t134_fl neg xs ys
@[go_sem] theorem t135_sz : szT Try.prog 135 = some 9 := by kernel_rfl
@[go_sem] theorem t135_by : bytesT Try.prog 135 = some 72 := by kernel_rfl
@[go_sem] theorem t135_ag : aggT Try.prog 135 = some true := by kernel_rfl
@[go_sem] theorem t135_ze : zeroT Try.prog 135 = some [.v (.int .i64 0), .v (.int .i64 0), .v (.int .i64 0), .v (.int .i64 0), .v (.int .i64 0), .v (.int .i64 0), .v (.int .i64 0), .v (.int .i64 0), .v (.int .i64 0)] := by kernel_rfl
@[go_sem] theorem t135_f0 : fldT Try.prog 135 0 = some (0, 1, 3) := by kernel_rfl
@[go_sem] theorem t135_f1 : fldT Try.prog 135 1 = some (1, 1, 3) := by kernel_rfl
@[go_sem] theorem t135_f2 : fldT Try.prog 135 2 = some (2, 1, 3) := by kernel_rfl
@[go_sem] theorem t135_f3 : fldT Try.prog 135 3 = some (3, 1, 3) := by kernel_rfl
@[go_sem] theorem t135_f4 : fldT Try.prog 135 4 = some (4, 3, 134) := by kernel_rfl
@[go_sem] theorem t135_f5 : fldT Try.prog 135 5 = some (7, 1, 3) := by kernel_rfl
@[go_sem] theorem t135_f6 : fldT Try.prog 135 6 = some (8, 1, 3) := by kernel_rfl
@[go_sem] theorem t135_fo : fldsOf Try.prog 135 = some [(0, 1), (1, 1), (2, 1), (3, 1), (4, 3), (7, 1), (8, 1)] := by kernel_rfl
@[go_sem] theorem t136_sz : szT Try.prog 136 = some 9 := by kernel_rfl
@[go_sem] theorem t136_by : bytesT Try.prog 136 = some 72 := by kernel_rfl
@[go_sem] theorem t136_ag : aggT Try.prog 136 = some true := by kernel_rfl
@[go_sem] theorem t136_ze : zeroT Try.prog 136 = some [.v (.int .i64 0), .v (.int .i64 0), .v (.int .i64 0), .v (.int .i64 0), .v (.int .i64 0), .v (.int .i64 0), .v (.int .i64 0), .v (.int .i64 0), .v (.int .i64 0)] := by kernel_rfl
@[go_sem] theorem t136_f0 : fldT Try.prog 136 0 = some (0, 1, 3) := by kernel_rfl
@[go_sem] theorem t136_f1 : fldT Try.prog 136 1 = some (1, 1, 3) := by kernel_rfl
@[go_sem] theorem t136_f2 : fldT Try.prog 136 2 = some (2, 1, 3) := by kernel_rfl
@[go_sem] theorem t136_f3 : fldT Try.prog 136 3 = some (3, 1, 3) := by kernel_rfl
@[go_sem] theorem t136_f4 : fldT Try.prog 136 4 = some (4, 3, 134) := by kernel_rfl
@[go_sem] theorem t136_f5 : fldT Try.prog 136 5 = some (7, 1, 3) := by kernel_rfl
@[go_sem] theorem t136_f6 : fldT Try.prog 136 6 = some (8, 1, 3) := by kernel_rfl
@[go_sem] theorem t136_fo : fldsOf Try.prog 136 = some [(0, 1), (1, 1), (2, 1), (3, 1), (4, 3), (7, 1), (8, 1)] := by kernel_rfl
@[go_sem] theorem t139_sz : szT Try.prog 139 = some 2 := by kernel_rfl
@[go_sem] theorem t139_by : bytesT Try.prog 139 = some 16 := by kernel_rfl
@[go_sem] theorem t139_ag : aggT Try.prog 139 = some true := by kernel_rfl
@[go_sem] theorem t139_ze : zeroT Try.prog 139 = some [.v (.int .i64 0), .v (.int .i64 0)] := by kernel_rfl
@[go_sem] theorem t139_f0 : fldT Try.prog 139 0 = some (0, 1, 3) := by kernel_rfl
@[go_sem] theorem t139_f1 : fldT Try.prog 139 1 = some (1, 1, 3) := by kernel_rfl
@[go_sem] theorem t139_fo : fldsOf Try.prog 139 = some [(0, 1), (1, 1)] := by kernel_rfl
@[go_sem] theorem t140_sz : szT Try.prog 140 = some 2 := by kernel_rfl
@[go_sem] theorem t140_by : bytesT Try.prog 140 = some 16 := by kernel_rfl
@[go_sem] theorem t140_ag : aggT Try.prog 140 = some true := by kernel_rfl
@[go_sem] theorem t140_ze : zeroT Try.prog 140 = some [.v (.int .i64 0), .v (.int .i64 0)] := by kernel_rfl
@[go_sem] theorem t140_f0 : fldT Try.prog 140 0 = some (0, 1, 3) := by kernel_rfl
@[go_sem] theorem t140_f1 : fldT Try.prog 140 1 = some (1, 1, 3) := by kernel_rfl
@[go_sem] theorem t140_fo : fldsOf Try.prog 140 = some [(0, 1), (1, 1)] := by kernel_rfl
@[go_sem] theorem t140_eg : Try.prog.eqGuardType Try.prog.depth 140 = false := by kernel_rfl
@[go_sem] theorem t140_fl : eqFlds Try.prog 140 = some [(3, 0), (3, 1)] := by kernel_rfl
@[go_sem] theorem t140_eq (neg : Bool) (xs ys : List T) : eqAggT Try.prog neg 140 (.agg xs) (.agg ys) = (match toVs xs, toVs ys with | some us, some ws => (eqL Try.prog 19 [(3, 0), (3, 1)] us ws).map fun b => .v (.bool (if neg = true then !b else b)) | _, _ => none) := eqAgg_t t140_eg t140_ag t140_fl neg xs ys
@[go_sem] theorem t141_sz : szT Try.prog 141 = some 1 := by kernel_rfl
@[go_sem] theorem t141_by : bytesT Try.prog 141 = some 24 := by kernel_rfl
@[go_sem] theorem t141_ag : aggT Try.prog 141 = some false := by kernel_rfl
@[go_sem] theorem t141_ze : zeroT Try.prog 141 = some [.v (.slice none 0 0)] := by kernel_rfl
@[go_sem] theorem t141_el : elemT Try.prog 141 = some 144 := by kernel_rfl
@[go_sem] theorem t141_un : Try.prog.underlying 141 = some (.slice 144) := by kernel_rfl
@[go_sem] theorem t141_ni : notInt Try.prog 141 = true := by kernel_rfl
@[go_sem] theorem t143_sz : szT Try.prog 143 = some 2 := by kernel_rfl
@[go_sem] theorem t143_by : bytesT Try.prog 143 = some 16 := by kernel_rfl
@[go_sem] theorem t143_ag : aggT Try.prog 143 = some true := by kernel_rfl
@[go_sem] theorem t143_ze : zeroT Try.prog 143 = some [.v (.int .i64 0), .v (.int .i64 0)] := by kernel_rfl
@[go_sem] theorem t143_f0 : fldT Try.prog 143 0 = some (0, 1, 3) := by kernel_rfl
@[go_sem] theorem t143_f1 : fldT Try.prog 143 1 = some (1, 1, 3) := by kernel_rfl
@[go_sem] theorem t143_fo : fldsOf Try.prog 143 = some [(0, 1), (1, 1)] := by kernel_rfl
@[go_sem] theorem t144_sz : szT Try.prog 144 = some 2 := by kernel_rfl
@[go_sem] theorem t144_by : bytesT Try.prog 144 = some 16 := by kernel_rfl
@[go_sem] theorem t144_ag : aggT Try.prog 144 = some true := by kernel_rfl
@[go_sem] theorem t144_ze : zeroT Try.prog 144 = some [.v (.int .i64 0), .v (.int .i64 0)] := by kernel_rfl
@[go_sem] theorem t144_f0 : fldT Try.prog 144 0 = some (0, 1, 3) := by kernel_rfl
@[go_sem] theorem t144_f1 : fldT Try.prog 144 1 = some (1, 1, 3) := by kernel_rfl
@[go_sem] theorem t144_fo : fldsOf Try.prog 144 = some [(0, 1), (1, 1)] := by kernel_rfl
@[go_sem] theorem t144_eg : Try.prog.eqGuardType Try.prog.depth 144 = false := by kernel_rfl
@[go_sem] theorem t144_fl : eqFlds Try.prog 144 = some [(3, 0), (3, 1)] := by kernel_rfl
@[go_sem] theorem t144_eq (neg : Bool) (xs ys : List T) : eqAggT Try.prog neg 144 (.agg xs) (.agg ys) = (match toVs xs, toVs ys with | some us, some ws => (eqL Try.prog 19 [(3, 0), (3, 1)] us ws).map fun b => .v (.bool (if neg = true then !b else b)) | _, _ => none) := eqAgg_t t144_eg t144_ag t144_fl neg xs ys
@[go_sem] theorem t181_sz : szT Try.prog 181 = some 3 := by kernel_rfl
@[go_sem] theorem t181_by : bytesT Try.prog 181 = some 40 := by kernel_rfl
@[go_sem] theorem t181_ag : aggT Try.prog 181 = some true := by kernel_rfl
@[go_sem] theorem t181_ze : zeroT Try.prog 181 = some [.v (.slice none 0 0), .v (.int .i64 0), .v (.int .i64 0)] := by kernel_rfl
@[go_sem] theorem t181_f0 : fldT Try.prog 181 0 = some (0, 1, 31) := by kernel_rfl
@[go_sem] theorem t181_f1 : fldT Try.prog 181 1 = some (1, 1, 3) := by kernel_rfl
@[go_sem] theorem t181_f2 : fldT Try.prog 181 2 = some (2, 1, 3) := by kernel_rfl
@[go_sem] theorem t181_fo : fldsOf Try.prog 181 = some [(0, 1), (1, 1), (2, 1)] := by kernel_rfl
@[go_sem] theorem t182_sz : szT Try.prog 182 = some 3 := by kernel_rfl
@[go_sem] theorem t182_by : bytesT Try.prog 182 = some 40 := by kernel_rfl
@[go_sem] theorem t182_ag : aggT Try.prog 182 = some true := by kernel_rfl
@[go_sem] theorem t182_ze : zeroT Try.prog 182 = some [.v (.slice none 0 0), .v (.int .i64 0), .v (.int .i64 0)] := by kernel_rfl
@[go_sem] theorem t182_f0 : fldT Try.prog 182 0 = some (0, 1, 31) := by kernel_rfl
@[go_sem] theorem t182_f1 : fldT Try.prog 182 1 = some (1, 1, 3) := by kernel_rfl
@[go_sem] theorem t182_f2 : fldT Try.prog 182 2 = some (2, 1, 3) := by kernel_rfl
@[go_sem] theorem t182_fo : fldsOf Try.prog 182 = some [(0, 1), (1, 1), (2, 1)] := by kernel_rfl
@[go_sem] theorem t198_sz : szT Try.prog 198 = some 3 := by kernel_rfl
@[go_sem] theorem t198_by : bytesT Try.prog 198 = some 40 := by kernel_rfl
@[go_sem] theorem t198_ag : aggT Try.prog 198 = some true := by kernel_rfl
@[go_sem] theorem t198_ze : zeroT Try.prog 198 = some [.v (.int .i64 0), .v (.string ⟨#[]⟩), .v (.string ⟨#[]⟩)] := by kernel_rfl
@[go_sem] theorem t198_f0 : fldT Try.prog 198 0 = some (0, 1, 3) := by kernel_rfl
@[go_sem] theorem t198_f1 : fldT Try.prog 198 1 = some (1, 1, 9) := by kernel_rfl
@[go_sem] theorem t198_f2 : fldT Try.prog 198 2 = some (2, 1, 9) := by kernel_rfl
@[go_sem] theorem t198_fo : fldsOf Try.prog 198 = some [(0, 1), (1, 1), (2, 1)] := by kernel_rfl
@[go_sem] theorem t199_sz : szT Try.prog 199 = some 3 := by kernel_rfl
@[go_sem] theorem t199_by : bytesT Try.prog 199 = some 40 := by kernel_rfl
@[go_sem] theorem t199_ag : aggT Try.prog 199 = some true := by kernel_rfl
@[go_sem] theorem t199_ze : zeroT Try.prog 199 = some [.v (.int .i64 0), .v (.string ⟨#[]⟩), .v (.string ⟨#[]⟩)] := by kernel_rfl
@[go_sem] theorem t199_f0 : fldT Try.prog 199 0 = some (0, 1, 3) := by kernel_rfl
@[go_sem] theorem t199_f1 : fldT Try.prog 199 1 = some (1, 1, 9) := by kernel_rfl
@[go_sem] theorem t199_f2 : fldT Try.prog 199 2 = some (2, 1, 9) := by kernel_rfl
@[go_sem] theorem t199_fo : fldsOf Try.prog 199 = some [(0, 1), (1, 1), (2, 1)] := by kernel_rfl
@[go_sem] theorem t199_eg : Try.prog.eqGuardType Try.prog.depth 199 = false := by kernel_rfl
@[go_sem] theorem t199_fl : eqFlds Try.prog 199 = some [(3, 0), (9, 1), (9, 2)] := by kernel_rfl
@[go_sem] theorem t199_eq (neg : Bool) (xs ys : List T) : eqAggT Try.prog neg 199 (.agg xs) (.agg ys) = (match toVs xs, toVs ys with | some us, some ws => (eqL Try.prog 19 [(3, 0), (9, 1), (9, 2)] us ws).map fun b => .v (.bool (if neg = true then !b else b)) | _, _ => none) := eqAgg_t t199_eg t199_ag t199_fl neg xs ys
@[go_sem] theorem t208_sz : szT Try.prog 208 = some 3 := by kernel_rfl
@[go_sem] theorem t208_by : bytesT Try.prog 208 = some 24 := by kernel_rfl
@[go_sem] theorem t208_ag : aggT Try.prog 208 = some true := by kernel_rfl
@[go_sem] theorem t208_ze : zeroT Try.prog 208 = some [.v (.int .i64 0), .v (.int .i64 0), .v (.int .i64 0)] := by kernel_rfl
@[go_sem] theorem t208_f0 : fldT Try.prog 208 0 = some (0, 1, 3) := by kernel_rfl
@[go_sem] theorem t208_f1 : fldT Try.prog 208 1 = some (1, 1, 3) := by kernel_rfl
@[go_sem] theorem t208_f2 : fldT Try.prog 208 2 = some (2, 1, 3) := by kernel_rfl
@[go_sem] theorem t208_fo : fldsOf Try.prog 208 = some [(0, 1), (1, 1), (2, 1)] := by kernel_rfl
@[go_sem] theorem t208_eg : Try.prog.eqGuardType Try.prog.depth 208 = false := by kernel_rfl
@[go_sem] theorem t208_fl : eqFlds Try.prog 208 = some [(3, 0), (3, 1), (3, 2)] := by kernel_rfl
@[go_sem] theorem t208_eq (neg : Bool) (xs ys : List T) : eqAggT Try.prog neg 208 (.agg xs) (.agg ys) = (match toVs xs, toVs ys with | some us, some ws => (eqL Try.prog 19 [(3, 0), (3, 1), (3, 2)] us ws).map fun b => .v (.bool (if neg = true then !b else b)) | _, _ => none) := eqAgg_t t208_eg t208_ag t208_fl neg xs ys
@[go_sem] theorem t209_sz : szT Try.prog 209 = some 9 := by kernel_rfl
@[go_sem] theorem t209_by : bytesT Try.prog 209 = some 72 := by kernel_rfl
@[go_sem] theorem t209_ag : aggT Try.prog 209 = some true := by kernel_rfl
@[go_sem] theorem t209_ze : zeroT Try.prog 209 = some [.v (.int .i64 0), .v (.int .i64 0), .v (.int .i64 0), .v (.int .i64 0), .v (.int .i64 0), .v (.int .i64 0), .v (.int .i64 0), .v (.int .i64 0), .v (.int .i64 0)] := by kernel_rfl
@[go_sem] theorem t209_f0 : fldT Try.prog 209 0 = some (0, 1, 3) := by kernel_rfl
@[go_sem] theorem t209_f1 : fldT Try.prog 209 1 = some (1, 1, 3) := by kernel_rfl
@[go_sem] theorem t209_f2 : fldT Try.prog 209 2 = some (2, 1, 3) := by kernel_rfl
@[go_sem] theorem t209_f3 : fldT Try.prog 209 3 = some (3, 1, 3) := by kernel_rfl
@[go_sem] theorem t209_f4 : fldT Try.prog 209 4 = some (4, 3, 208) := by kernel_rfl
@[go_sem] theorem t209_f5 : fldT Try.prog 209 5 = some (7, 1, 3) := by kernel_rfl
@[go_sem] theorem t209_f6 : fldT Try.prog 209 6 = some (8, 1, 3) := by kernel_rfl
@[go_sem] theorem t209_fo : fldsOf Try.prog 209 = some [(0, 1), (1, 1), (2, 1), (3, 1), (4, 3), (7, 1), (8, 1)] := by kernel_rfl
@[go_sem] theorem t210_sz : szT Try.prog 210 = some 9 := by kernel_rfl
@[go_sem] theorem t210_by : bytesT Try.prog 210 = some 72 := by kernel_rfl
@[go_sem] theorem t210_ag : aggT Try.prog 210 = some true := by kernel_rfl
@[go_sem] theorem t210_ze : zeroT Try.prog 210 = some [.v (.int .i64 0), .v (.int .i64 0), .v (.int .i64 0), .v (.int .i64 0), .v (.int .i64 0), .v (.int .i64 0), .v (.int .i64 0), .v (.int .i64 0), .v (.int .i64 0)] := by kernel_rfl
@[go_sem] theorem t210_f0 : fldT Try.prog 210 0 = some (0, 1, 3) := by kernel_rfl
@[go_sem] theorem t210_f1 : fldT Try.prog 210 1 = some (1, 1, 3) := by kernel_rfl
@[go_sem] theorem t210_f2 : fldT Try.prog 210 2 = some (2, 1, 3) := by kernel_rfl
@[go_sem] theorem t210_f3 : fldT Try.prog 210 3 = some (3, 1, 3) := by kernel_rfl
@[go_sem] theorem t210_f4 : fldT Try.prog 210 4 = some (4, 3, 208) := by kernel_rfl
@[go_sem] theorem t210_f5 : fldT Try.prog 210 5 = some (7, 1, 3) := by kernel_rfl
@[go_sem] theorem t210_f6 : fldT Try.prog 210 6 = some (8, 1, 3) := by kernel_rfl
@[go_sem] theorem t210_fo : fldsOf Try.prog 210 = some [(0, 1), (1, 1), (2, 1), (3, 1), (4, 3), (7, 1), (8, 1)] := by kernel_rfl
@[go_sem] theorem t212_sz : szT Try.prog 212 = some 3 := by kernel_rfl
@[go_sem] theorem t212_by : bytesT Try.prog 212 = some 24 := by kernel_rfl
@[go_sem] theorem t212_ag : aggT Try.prog 212 = some true := by kernel_rfl
@[go_sem] theorem t212_ze : zeroT Try.prog 212 = some [.v (.int .i64 0), .v (.int .i64 0), .v (.int .i64 0)] := by kernel_rfl
@[go_sem] theorem t212_f0 : fldT Try.prog 212 0 = some (0, 1, 3) := by kernel_rfl
@[go_sem] theorem t212_f1 : fldT Try.prog 212 1 = some (1, 1, 3) := by kernel_rfl
@[go_sem] theorem t212_f2 : fldT Try.prog 212 2 = some (2, 1, 3) := by kernel_rfl
@[go_sem] theorem t212_fo : fldsOf Try.prog 212 = some [(0, 1), (1, 1), (2, 1)] := by kernel_rfl
@[go_sem] theorem t212_eg : Try.prog.eqGuardType Try.prog.depth 212 = false := by kernel_rfl
@[go_sem] theorem t212_fl : eqFlds Try.prog 212 = some [(3, 0), (3, 1), (3, 2)] := by kernel_rfl
@[go_sem] theorem t212_eq (neg : Bool) (xs ys : List T) : eqAggT Try.prog neg 212 (.agg xs) (.agg ys) = (match toVs xs, toVs ys with | some us, some ws => (eqL Try.prog 19 [(3, 0), (3, 1), (3, 2)] us ws).map fun b => .v (.bool (if neg = true then !b else b)) | _, _ => none) := eqAgg_t t212_eg t212_ag t212_fl neg xs ys
@[go_sem] theorem t214_sz : szT Try.prog 214 = some 2 := by kernel_rfl
@[go_sem] theorem t214_by : bytesT Try.prog 214 = some 16 := by kernel_rfl
@[go_sem] theorem t214_ag : aggT Try.prog 214 = some true := by kernel_rfl
@[go_sem] theorem t214_ze : zeroT Try.prog 214 = some [.v (.int .i64 0), .v (.int .i64 0)] := by kernel_rfl
@[go_sem] theorem t214_f0 : fldT Try.prog 214 0 = some (0, 1, 3) := by kernel_rfl
@[go_sem] theorem t214_f1 : fldT Try.prog 214 1 = some (1, 1, 3) := by kernel_rfl
@[go_sem] theorem t214_fo : fldsOf Try.prog 214 = some [(0, 1), (1, 1)] := by kernel_rfl
@[go_sem] theorem t214_eg : Try.prog.eqGuardType Try.prog.depth 214 = false := by kernel_rfl
@[go_sem] theorem t214_fl : eqFlds Try.prog 214 = some [(3, 0), (3, 1)] := by kernel_rfl
@[go_sem] theorem t214_eq (neg : Bool) (xs ys : List T) : eqAggT Try.prog neg 214 (.agg xs) (.agg ys) = (match toVs xs, toVs ys with | some us, some ws => (eqL Try.prog 19 [(3, 0), (3, 1)] us ws).map fun b => .v (.bool (if neg = true then !b else b)) | _, _ => none) := eqAgg_t t214_eg t214_ag t214_fl neg xs ys
@[go_sem] theorem t220_sz : szT Try.prog 220 = some 3 := by kernel_rfl
@[go_sem] theorem t220_by : bytesT Try.prog 220 = some 40 := by kernel_rfl
@[go_sem] theorem t220_ag : aggT Try.prog 220 = some true := by kernel_rfl
@[go_sem] theorem t220_ze : zeroT Try.prog 220 = some [.v (.int .i64 0), .v (.string ⟨#[]⟩), .v (.string ⟨#[]⟩)] := by kernel_rfl
@[go_sem] theorem t220_f0 : fldT Try.prog 220 0 = some (0, 1, 3) := by kernel_rfl
@[go_sem] theorem t220_f1 : fldT Try.prog 220 1 = some (1, 1, 9) := by kernel_rfl
@[go_sem] theorem t220_f2 : fldT Try.prog 220 2 = some (2, 1, 9) := by kernel_rfl
@[go_sem] theorem t220_fo : fldsOf Try.prog 220 = some [(0, 1), (1, 1), (2, 1)] := by kernel_rfl
@[go_sem] theorem t220_eg : Try.prog.eqGuardType Try.prog.depth 220 = false := by kernel_rfl
@[go_sem] theorem t220_fl : eqFlds Try.prog 220 = some [(3, 0), (9, 1), (9, 2)] := by kernel_rfl
@[go_sem] theorem t220_eq (neg : Bool) (xs ys : List T) : eqAggT Try.prog neg 220 (.agg xs) (.agg ys) = (match toVs xs, toVs ys with | some us, some ws => (eqL Try.prog 19 [(3, 0), (9, 1), (9, 2)] us ws).map fun b => .v (.bool (if neg = true then !b else b)) | _, _ => none) := eqAgg_t t220_eg t220_ag t220_fl neg xs ys
@[go_sem] theorem t227_sz : szT Try.prog 227 = some 1 := by kernel_rfl
@[go_sem] theorem t227_by : bytesT Try.prog 227 = some 8 := by kernel_rfl
@[go_sem] theorem t227_ag : aggT Try.prog 227 = some false := by kernel_rfl
@[go_sem] theorem t227_ze : zeroT Try.prog 227 = some [.v (.int .u64 0)] := by kernel_rfl
@[go_sem] theorem t227_un : Try.prog.underlying 227 = some (.int .u64) := by kernel_rfl
@[go_sem] theorem t227_ec (m : Nat) (k : IntKind) (a b : Int) : eqC Try.prog (m + 1) 227 [.int k a] [.int k b] = some (decide (a = b)) := eqC_int t227_un k a b
@[go_sem] theorem t255_sz : szT Try.prog 255 = some 1 := by kernel_rfl
@[go_sem] theorem t255_by : bytesT Try.prog 255 = some 4 := by kernel_rfl
@[go_sem] theorem t255_ag : aggT Try.prog 255 = some false := by kernel_rfl
@[go_sem] theorem t255_ze : zeroT Try.prog 255 = some [.v (.int .u32 0)] := by kernel_rfl
@[go_sem] theorem t255_un : Try.prog.underlying 255 = some (.int .u32) := by kernel_rfl
@[go_sem] theorem t255_ec (m : Nat) (k : IntKind) (a b : Int) : eqC Try.prog (m + 1) 255 [.int k a] [.int k b] = some (decide (a = b)) := eqC_int t255_un k a b
abbrev F.laws_FnExactHeldNew : FuncId := 3
theorem C.laws_FnExactHeldNew : Try.prog.funcs[F.laws_FnExactHeldNew]? = some Try.f3 := Try.func3
abbrev F.laws_FnTable : FuncId := 4
theorem C.laws_FnTable : Try.prog.funcs[F.laws_FnTable]? = some Try.f4 := Try.func4
abbrev F.laws_FnZones : FuncId := 5
theorem C.laws_FnZones : Try.prog.funcs[F.laws_FnZones]? = some Try.f5 := Try.func5
abbrev F.laws_FnClocks : FuncId := 6
theorem C.laws_FnClocks : Try.prog.funcs[F.laws_FnClocks]? = some Try.f6 := Try.func6
abbrev F.laws_FnPieces : FuncId := 7
theorem C.laws_FnPieces : Try.prog.funcs[F.laws_FnPieces]? = some Try.f7 := Try.func7
abbrev F.laws_FnExactZoneTable : FuncId := 8
theorem C.laws_FnExactZoneTable : Try.prog.funcs[F.laws_FnExactZoneTable]? = some Try.f8 := Try.func8
abbrev F.laws_FnExactHeldLoad : FuncId := 9
theorem C.laws_FnExactHeldLoad : Try.prog.funcs[F.laws_FnExactHeldLoad]? = some Try.f9 := Try.func9
abbrev F.laws_szHeldS : FuncId := 10
theorem C.laws_szHeldS : Try.prog.funcs[F.laws_szHeldS]? = some Try.f10 := Try.func10
abbrev F.spec_HeldNew : FuncId := 11
theorem C.spec_HeldNew : Try.prog.funcs[F.spec_HeldNew]? = some Try.f11 := Try.func11
abbrev F.laws_toHeldS : FuncId := 12
theorem C.laws_toHeldS : Try.prog.funcs[F.laws_toHeldS]? = some Try.f12 := Try.func12
abbrev F.impl_HeldNew : FuncId := 13
theorem C.impl_HeldNew : Try.prog.funcs[F.impl_HeldNew]? = some Try.f13 := Try.func13
abbrev F.laws_eqHeldS : FuncId := 14
theorem C.laws_eqHeldS : Try.prog.funcs[F.laws_eqHeldS]? = some Try.f14 := Try.func14
abbrev F.laws_markHeldS : FuncId := 15
theorem C.laws_markHeldS : Try.prog.funcs[F.laws_markHeldS]? = some Try.f15 := Try.func15
abbrev F.laws_heldHeldS : FuncId := 16
theorem C.laws_heldHeldS : Try.prog.funcs[F.laws_heldHeldS]? = some Try.f16 := Try.func16
abbrev F.laws_big : FuncId := 17
theorem C.laws_big : Try.prog.funcs[F.laws_big]? = some Try.f17 := Try.func17
abbrev F.spec_DrawTablePack : FuncId := 18
theorem C.spec_DrawTablePack : Try.prog.funcs[F.spec_DrawTablePack]? = some Try.f18 := Try.func18
abbrev F.impl_TablePack : FuncId := 19
theorem C.impl_TablePack : Try.prog.funcs[F.impl_TablePack]? = some Try.f19 := Try.func19
abbrev F.spec_TableOk : FuncId := 20
theorem C.spec_TableOk : Try.prog.funcs[F.spec_TableOk]? = some Try.f20 := Try.func20
abbrev F.impl_TableRead : FuncId := 21
theorem C.impl_TableRead : Try.prog.funcs[F.impl_TableRead]? = some Try.f21 := Try.func21
abbrev F.laws_sameShifts : FuncId := 22
theorem C.laws_sameShifts : Try.prog.funcs[F.laws_sameShifts]? = some Try.f22 := Try.func22
abbrev F.spec_DrawTableRead : FuncId := 23
theorem C.spec_DrawTableRead : Try.prog.funcs[F.spec_DrawTableRead]? = some Try.f23 := Try.func23
abbrev F.spec_TableRead : FuncId := 24
theorem C.spec_TableRead : Try.prog.funcs[F.spec_TableRead]? = some Try.f24 := Try.func24
abbrev F.spec_DrawSourceOk : FuncId := 25
theorem C.spec_DrawSourceOk : Try.prog.funcs[F.spec_DrawSourceOk]? = some Try.f25 := Try.func25
abbrev F.spec_SourceOk : FuncId := 26
theorem C.spec_SourceOk : Try.prog.funcs[F.spec_SourceOk]? = some Try.f26 := Try.func26
abbrev F.impl_ZoneTable : FuncId := 27
theorem C.impl_ZoneTable : Try.prog.funcs[F.impl_ZoneTable]? = some Try.f27 := Try.func27
abbrev F.impl_SourceOk : FuncId := 28
theorem C.impl_SourceOk : Try.prog.funcs[F.impl_SourceOk]? = some Try.f28 := Try.func28
abbrev F.impl_ZoneOf : FuncId := 29
theorem C.impl_ZoneOf : Try.prog.funcs[F.impl_ZoneOf]? = some Try.f29 := Try.func29
abbrev F.spec_ZoneTable : FuncId := 30
theorem C.spec_ZoneTable : Try.prog.funcs[F.spec_ZoneTable]? = some Try.f30 := Try.func30
abbrev F.impl_TableAt : FuncId := 31
theorem C.impl_TableAt : Try.prog.funcs[F.impl_TableAt]? = some Try.f31 := Try.func31
abbrev F.laws_at : FuncId := 32
theorem C.laws_at : Try.prog.funcs[F.laws_at]? = some Try.f32 := Try.func32
abbrev F.spec_DrawZoneTable : FuncId := 33
theorem C.spec_DrawZoneTable : Try.prog.funcs[F.spec_DrawZoneTable]? = some Try.f33 := Try.func33
abbrev F.impl_TableOk : FuncId := 34
theorem C.impl_TableOk : Try.prog.funcs[F.impl_TableOk]? = some Try.f34 := Try.func34
abbrev F.impl_TableLocal : FuncId := 35
theorem C.impl_TableLocal : Try.prog.funcs[F.impl_TableLocal]? = some Try.f35 := Try.func35
abbrev F.impl_DayOf : FuncId := 36
theorem C.impl_DayOf : Try.prog.funcs[F.impl_DayOf]? = some Try.f36 := Try.func36
abbrev F.spec_DrawHeldsOk : FuncId := 37
theorem C.spec_DrawHeldsOk : Try.prog.funcs[F.spec_DrawHeldsOk]? = some Try.f37 := Try.func37
abbrev F.spec_HeldsOk : FuncId := 38
theorem C.spec_HeldsOk : Try.prog.funcs[F.spec_HeldsOk]? = some Try.f38 := Try.func38
abbrev F.impl_HeldsOk : FuncId := 39
theorem C.impl_HeldsOk : Try.prog.funcs[F.impl_HeldsOk]? = some Try.f39 := Try.func39
abbrev F.impl_PieceNew : FuncId := 40
theorem C.impl_PieceNew : Try.prog.funcs[F.impl_PieceNew]? = some Try.f40 := Try.func40
abbrev F.impl_PiecePut : FuncId := 41
theorem C.impl_PiecePut : Try.prog.funcs[F.impl_PiecePut]? = some Try.f41 := Try.func41
abbrev F.spec_JournalAdd : FuncId := 42
theorem C.spec_JournalAdd : Try.prog.funcs[F.spec_JournalAdd]? = some Try.f42 := Try.func42
abbrev F.impl_HeldLoad : FuncId := 43
theorem C.impl_HeldLoad : Try.prog.funcs[F.impl_HeldLoad]? = some Try.f43 := Try.func43
abbrev F.laws_szSource : FuncId := 44
theorem C.laws_szSource : Try.prog.funcs[F.laws_szSource]? = some Try.f44 := Try.func44
abbrev F.laws_toSource : FuncId := 45
theorem C.laws_toSource : Try.prog.funcs[F.laws_toSource]? = some Try.f45 := Try.func45
abbrev F.laws_eqTable : FuncId := 46
theorem C.laws_eqTable : Try.prog.funcs[F.laws_eqTable]? = some Try.f46 := Try.func46
abbrev F.laws_eqSource : FuncId := 47
theorem C.laws_eqSource : Try.prog.funcs[F.laws_eqSource]? = some Try.f47 := Try.func47
abbrev F.laws_markSource : FuncId := 48
theorem C.laws_markSource : Try.prog.funcs[F.laws_markSource]? = some Try.f48 := Try.func48
abbrev F.laws_markTable : FuncId := 49
theorem C.laws_markTable : Try.prog.funcs[F.laws_markTable]? = some Try.f49 := Try.func49
abbrev F.laws_heldTable : FuncId := 50
theorem C.laws_heldTable : Try.prog.funcs[F.laws_heldTable]? = some Try.f50 := Try.func50
abbrev F.laws_szDisk : FuncId := 51
theorem C.laws_szDisk : Try.prog.funcs[F.laws_szDisk]? = some Try.f51 := Try.func51
abbrev F.spec_HeldLoad : FuncId := 52
theorem C.spec_HeldLoad : Try.prog.funcs[F.spec_HeldLoad]? = some Try.f52 := Try.func52
abbrev F.laws_toDisk : FuncId := 53
theorem C.laws_toDisk : Try.prog.funcs[F.laws_toDisk]? = some Try.f53 := Try.func53
abbrev F.laws_eqDisk : FuncId := 54
theorem C.laws_eqDisk : Try.prog.funcs[F.laws_eqDisk]? = some Try.f54 := Try.func54
abbrev F.laws_markDisk : FuncId := 55
theorem C.laws_markDisk : Try.prog.funcs[F.laws_markDisk]? = some Try.f55 := Try.func55
abbrev F.laws_szHeld : FuncId := 56
theorem C.laws_szHeld : Try.prog.funcs[F.laws_szHeld]? = some Try.f56 := Try.func56
abbrev F.spec_ParcelNew : FuncId := 57
theorem C.spec_ParcelNew : Try.prog.funcs[F.spec_ParcelNew]? = some Try.f57 := Try.func57
abbrev F.spec_l14Find : FuncId := 58
theorem C.spec_l14Find : Try.prog.funcs[F.spec_l14Find]? = some Try.f58 := Try.func58
abbrev F.spec_l1In : FuncId := 59
theorem C.spec_l1In : Try.prog.funcs[F.spec_l1In]? = some Try.f59 := Try.func59
abbrev F.spec_l14Copy : FuncId := 60
theorem C.spec_l14Copy : Try.prog.funcs[F.spec_l14Copy]? = some Try.f60 := Try.func60
abbrev F.spec_l9Copy : FuncId := 61
theorem C.spec_l9Copy : Try.prog.funcs[F.spec_l9Copy]? = some Try.f61 := Try.func61
abbrev F.laws_toHeld : FuncId := 62
theorem C.laws_toHeld : Try.prog.funcs[F.laws_toHeld]? = some Try.f62 := Try.func62
abbrev F.impl_ParcelNew : FuncId := 63
theorem C.impl_ParcelNew : Try.prog.funcs[F.impl_ParcelNew]? = some Try.f63 := Try.func63
abbrev F.slices_DeleteFunc_Held : FuncId := 64
theorem C.slices_DeleteFunc_Held : Try.prog.funcs[F.slices_DeleteFunc_Held]? = some Try.f64 := Try.func64
abbrev F.impl_copyHelds : FuncId := 65
theorem C.impl_copyHelds : Try.prog.funcs[F.impl_copyHelds]? = some Try.f65 := Try.func65
abbrev F.impl_HeldNew_1 : FuncId := 66
theorem C.impl_HeldNew_1 : Try.prog.funcs[F.impl_HeldNew_1]? = some Try.f66 := Try.func66
abbrev F.slices_Insert_Held : FuncId := 67
theorem C.slices_Insert_Held : Try.prog.funcs[F.slices_Insert_Held]? = some Try.f67 := Try.func67
abbrev F.laws_eqHeld : FuncId := 68
theorem C.laws_eqHeld : Try.prog.funcs[F.laws_eqHeld]? = some Try.f68 := Try.func68
abbrev F.laws_markText : FuncId := 69
theorem C.laws_markText : Try.prog.funcs[F.laws_markText]? = some Try.f69 := Try.func69
abbrev F.laws_markStringS : FuncId := 70
theorem C.laws_markStringS : Try.prog.funcs[F.laws_markStringS]? = some Try.f70 := Try.func70
abbrev F.laws_heldStringS : FuncId := 71
theorem C.laws_heldStringS : Try.prog.funcs[F.laws_heldStringS]? = some Try.f71 := Try.func71
abbrev F.spec_l13DrawTable : FuncId := 72
theorem C.spec_l13DrawTable : Try.prog.funcs[F.spec_l13DrawTable]? = some Try.f72 := Try.func72
abbrev F.spec_l1New : FuncId := 73
theorem C.spec_l1New : Try.prog.funcs[F.spec_l1New]? = some Try.f73 := Try.func73
abbrev F.impl_putNums : FuncId := 74
theorem C.impl_putNums : Try.prog.funcs[F.impl_putNums]? = some Try.f74 := Try.func74
abbrev F.impl_reader_num : FuncId := 75
theorem C.impl_reader_num : Try.prog.funcs[F.impl_reader_num]? = some Try.f75 := Try.func75
abbrev F.impl_reader_done : FuncId := 76
theorem C.impl_reader_done : Try.prog.funcs[F.impl_reader_done]? = some Try.f76 := Try.func76
abbrev F.spec_TablePack : FuncId := 77
theorem C.spec_TablePack : Try.prog.funcs[F.spec_TablePack]? = some Try.f77 := Try.func77
abbrev F.spec_l1Once : FuncId := 78
theorem C.spec_l1Once : Try.prog.funcs[F.spec_l1Once]? = some Try.f78 := Try.func78
abbrev F.spec_l1PickInt : FuncId := 79
theorem C.spec_l1PickInt : Try.prog.funcs[F.spec_l1PickInt]? = some Try.f79 := Try.func79
abbrev F.spec_l1Below : FuncId := 80
theorem C.spec_l1Below : Try.prog.funcs[F.spec_l1Below]? = some Try.f80 := Try.func80
abbrev F.spec_l1Min : FuncId := 81
theorem C.spec_l1Min : Try.prog.funcs[F.spec_l1Min]? = some Try.f81 := Try.func81
abbrev F.spec_GetNum : FuncId := 82
theorem C.spec_GetNum : Try.prog.funcs[F.spec_GetNum]? = some Try.f82 := Try.func82
abbrev F.spec_l12DrawSource : FuncId := 83
theorem C.spec_l12DrawSource : Try.prog.funcs[F.spec_l12DrawSource]? = some Try.f83 := Try.func83
abbrev F.spec_l12RuleOk : FuncId := 84
theorem C.spec_l12RuleOk : Try.prog.funcs[F.spec_l12RuleOk]? = some Try.f84 := Try.func84
abbrev F.spec_l12Zone : FuncId := 85
theorem C.spec_l12Zone : Try.prog.funcs[F.spec_l12Zone]? = some Try.f85 := Try.func85
abbrev F.spec_l12Link : FuncId := 86
theorem C.spec_l12Link : Try.prog.funcs[F.spec_l12Link]? = some Try.f86 := Try.func86
abbrev F.impl_settingsOf : FuncId := 87
theorem C.impl_settingsOf : Try.prog.funcs[F.impl_settingsOf]? = some Try.f87 := Try.func87
abbrev F.impl_ruleOk : FuncId := 88
theorem C.impl_ruleOk : Try.prog.funcs[F.impl_ruleOk]? = some Try.f88 := Try.func88
abbrev F.impl_zoneOk : FuncId := 89
theorem C.impl_zoneOk : Try.prog.funcs[F.impl_zoneOk]? = some Try.f89 := Try.func89
abbrev F.impl_hasRule : FuncId := 90
theorem C.impl_hasRule : Try.prog.funcs[F.impl_hasRule]? = some Try.f90 := Try.func90
abbrev F.impl_isGreat : FuncId := 91
theorem C.impl_isGreat : Try.prog.funcs[F.impl_isGreat]? = some Try.f91 := Try.func91
abbrev F.impl_zoneAt : FuncId := 92
theorem C.impl_zoneAt : Try.prog.funcs[F.impl_zoneAt]? = some Try.f92 := Try.func92
abbrev F.spec_ZoneOf : FuncId := 93
theorem C.spec_ZoneOf : Try.prog.funcs[F.spec_ZoneOf]? = some Try.f93 := Try.func93
abbrev F.spec_l13Walls : FuncId := 94
theorem C.spec_l13Walls : Try.prog.funcs[F.spec_l13Walls]? = some Try.f94 := Try.func94
abbrev F.spec_l13DrawSource : FuncId := 95
theorem C.spec_l13DrawSource : Try.prog.funcs[F.spec_l13DrawSource]? = some Try.f95 := Try.func95
abbrev F.impl_isMinute : FuncId := 96
theorem C.impl_isMinute : Try.prog.funcs[F.impl_isMinute]? = some Try.f96 := Try.func96
abbrev F.impl_isOff : FuncId := 97
theorem C.impl_isOff : Try.prog.funcs[F.impl_isOff]? = some Try.f97 := Try.func97
abbrev F.impl_DateOf : FuncId := 98
theorem C.impl_DateOf : Try.prog.funcs[F.impl_DateOf]? = some Try.f98 := Try.func98
abbrev F.impl_within : FuncId := 99
theorem C.impl_within : Try.prog.funcs[F.impl_within]? = some Try.f99 := Try.func99
abbrev F.impl_MonthLong : FuncId := 100
theorem C.impl_MonthLong : Try.prog.funcs[F.impl_MonthLong]? = some Try.f100 := Try.func100
abbrev F.impl_yearBegins : FuncId := 101
theorem C.impl_yearBegins : Try.prog.funcs[F.impl_yearBegins]? = some Try.f101 := Try.func101
abbrev F.spec_l14DrawHelds : FuncId := 102
theorem C.spec_l14DrawHelds : Try.prog.funcs[F.spec_l14DrawHelds]? = some Try.f102 := Try.func102
abbrev F.spec_ParcelOk : FuncId := 103
theorem C.spec_ParcelOk : Try.prog.funcs[F.spec_ParcelOk]? = some Try.f103 := Try.func103
abbrev F.impl_isRelease : FuncId := 104
theorem C.impl_isRelease : Try.prog.funcs[F.impl_isRelease]? = some Try.f104 := Try.func104
abbrev F.impl_ParcelOk : FuncId := 105
theorem C.impl_ParcelOk : Try.prog.funcs[F.impl_ParcelOk]? = some Try.f105 := Try.func105
abbrev F.impl_isSize : FuncId := 106
theorem C.impl_isSize : Try.prog.funcs[F.impl_isSize]? = some Try.f106 := Try.func106
abbrev F.impl_PutText : FuncId := 107
theorem C.impl_PutText : Try.prog.funcs[F.impl_PutText]? = some Try.f107 := Try.func107
abbrev F.spec_JournalLate : FuncId := 108
theorem C.spec_JournalLate : Try.prog.funcs[F.spec_JournalLate]? = some Try.f108 := Try.func108
abbrev F.spec_DiskSync : FuncId := 109
theorem C.spec_DiskSync : Try.prog.funcs[F.spec_DiskSync]? = some Try.f109 := Try.func109
abbrev F.impl_JournalRead : FuncId := 110
theorem C.impl_JournalRead : Try.prog.funcs[F.impl_JournalRead]? = some Try.f110 := Try.func110
abbrev F.impl_heldBy : FuncId := 111
theorem C.impl_heldBy : Try.prog.funcs[F.impl_heldBy]? = some Try.f111 := Try.func111
abbrev F.laws_szRuleS : FuncId := 112
theorem C.laws_szRuleS : Try.prog.funcs[F.laws_szRuleS]? = some Try.f112 := Try.func112
abbrev F.laws_szZoneS : FuncId := 113
theorem C.laws_szZoneS : Try.prog.funcs[F.laws_szZoneS]? = some Try.f113 := Try.func113
abbrev F.laws_szLinkS : FuncId := 114
theorem C.laws_szLinkS : Try.prog.funcs[F.laws_szLinkS]? = some Try.f114 := Try.func114
abbrev F.laws_toRuleS : FuncId := 115
theorem C.laws_toRuleS : Try.prog.funcs[F.laws_toRuleS]? = some Try.f115 := Try.func115
abbrev F.laws_toZoneS : FuncId := 116
theorem C.laws_toZoneS : Try.prog.funcs[F.laws_toZoneS]? = some Try.f116 := Try.func116
abbrev F.laws_toLinkS : FuncId := 117
theorem C.laws_toLinkS : Try.prog.funcs[F.laws_toLinkS]? = some Try.f117 := Try.func117
abbrev F.laws_eqShiftS : FuncId := 118
theorem C.laws_eqShiftS : Try.prog.funcs[F.laws_eqShiftS]? = some Try.f118 := Try.func118
abbrev F.laws_eqRuleS : FuncId := 119
theorem C.laws_eqRuleS : Try.prog.funcs[F.laws_eqRuleS]? = some Try.f119 := Try.func119
abbrev F.laws_eqZoneS : FuncId := 120
theorem C.laws_eqZoneS : Try.prog.funcs[F.laws_eqZoneS]? = some Try.f120 := Try.func120
abbrev F.laws_eqLinkS : FuncId := 121
theorem C.laws_eqLinkS : Try.prog.funcs[F.laws_eqLinkS]? = some Try.f121 := Try.func121
abbrev F.laws_markRuleS : FuncId := 122
theorem C.laws_markRuleS : Try.prog.funcs[F.laws_markRuleS]? = some Try.f122 := Try.func122
abbrev F.laws_markZoneS : FuncId := 123
theorem C.laws_markZoneS : Try.prog.funcs[F.laws_markZoneS]? = some Try.f123 := Try.func123
abbrev F.laws_markLinkS : FuncId := 124
theorem C.laws_markLinkS : Try.prog.funcs[F.laws_markLinkS]? = some Try.f124 := Try.func124
abbrev F.laws_markShiftS : FuncId := 125
theorem C.laws_markShiftS : Try.prog.funcs[F.laws_markShiftS]? = some Try.f125 := Try.func125
abbrev F.laws_heldShiftS : FuncId := 126
theorem C.laws_heldShiftS : Try.prog.funcs[F.laws_heldShiftS]? = some Try.f126 := Try.func126
abbrev F.laws_szFileS : FuncId := 127
theorem C.laws_szFileS : Try.prog.funcs[F.laws_szFileS]? = some Try.f127 := Try.func127
abbrev F.spec_JournalRead : FuncId := 128
theorem C.spec_JournalRead : Try.prog.funcs[F.spec_JournalRead]? = some Try.f128 := Try.func128
abbrev F.spec_l14Piece : FuncId := 129
theorem C.spec_l14Piece : Try.prog.funcs[F.spec_l14Piece]? = some Try.f129 := Try.func129
abbrev F.laws_toFileS : FuncId := 130
theorem C.laws_toFileS : Try.prog.funcs[F.laws_toFileS]? = some Try.f130 := Try.func130
abbrev F.laws_eqFileS : FuncId := 131
theorem C.laws_eqFileS : Try.prog.funcs[F.laws_eqFileS]? = some Try.f131 := Try.func131
abbrev F.laws_markFileS : FuncId := 132
theorem C.laws_markFileS : Try.prog.funcs[F.laws_markFileS]? = some Try.f132 := Try.func132
abbrev F.laws_szParcel : FuncId := 133
theorem C.laws_szParcel : Try.prog.funcs[F.laws_szParcel]? = some Try.f133 := Try.func133
abbrev F.spec_PartsOf : FuncId := 134
theorem C.spec_PartsOf : Try.prog.funcs[F.spec_PartsOf]? = some Try.f134 := Try.func134
abbrev F.laws_toParcel : FuncId := 135
theorem C.laws_toParcel : Try.prog.funcs[F.laws_toParcel]? = some Try.f135 := Try.func135
abbrev F.impl_PartsOf : FuncId := 136
theorem C.impl_PartsOf : Try.prog.funcs[F.impl_PartsOf]? = some Try.f136 := Try.func136
abbrev F.slices_IndexFunc_Held : FuncId := 137
theorem C.slices_IndexFunc_Held : Try.prog.funcs[F.slices_IndexFunc_Held]? = some Try.f137 := Try.func137
abbrev F.impl_copyParcel : FuncId := 138
theorem C.impl_copyParcel : Try.prog.funcs[F.impl_copyParcel]? = some Try.f138 := Try.func138
abbrev F.slices_overlaps_Held : FuncId := 139
theorem C.slices_overlaps_Held : Try.prog.funcs[F.slices_overlaps_Held]? = some Try.f139 := Try.func139
abbrev F.slices_rotateRight_Held : FuncId := 140
theorem C.slices_rotateRight_Held : Try.prog.funcs[F.slices_rotateRight_Held]? = some Try.f140 := Try.func140
abbrev F.laws_eqParcel : FuncId := 141
theorem C.laws_eqParcel : Try.prog.funcs[F.laws_eqParcel]? = some Try.f141 := Try.func141
abbrev F.impl_PutNum : FuncId := 142
theorem C.impl_PutNum : Try.prog.funcs[F.impl_PutNum]? = some Try.f142 := Try.func142
abbrev F.impl_GetNum : FuncId := 143
theorem C.impl_GetNum : Try.prog.funcs[F.impl_GetNum]? = some Try.f143 := Try.func143
abbrev F.spec_PutNum : FuncId := 144
theorem C.spec_PutNum : Try.prog.funcs[F.spec_PutNum]? = some Try.f144 := Try.func144
abbrev F.spec_l1Byte : FuncId := 145
theorem C.spec_l1Byte : Try.prog.funcs[F.spec_l1Byte]? = some Try.f145 := Try.func145
abbrev F.spec_l12DrawRight : FuncId := 146
theorem C.spec_l12DrawRight : Try.prog.funcs[F.spec_l12DrawRight]? = some Try.f146 := Try.func146
abbrev F.spec_l12Small : FuncId := 147
theorem C.spec_l12Small : Try.prog.funcs[F.spec_l12Small]? = some Try.f147 := Try.func147
abbrev F.spec_l11Year : FuncId := 148
theorem C.spec_l11Year : Try.prog.funcs[F.spec_l11Year]? = some Try.f148 := Try.func148
abbrev F.spec_OnOk : FuncId := 149
theorem C.spec_OnOk : Try.prog.funcs[F.spec_OnOk]? = some Try.f149 := Try.func149
abbrev F.spec_l12Great : FuncId := 150
theorem C.spec_l12Great : Try.prog.funcs[F.spec_l12Great]? = some Try.f150 := Try.func150
abbrev F.spec_l12HasRule : FuncId := 151
theorem C.spec_l12HasRule : Try.prog.funcs[F.spec_l12HasRule]? = some Try.f151 := Try.func151
abbrev F.spec_l12HasZone : FuncId := 152
theorem C.spec_l12HasZone : Try.prog.funcs[F.spec_l12HasZone]? = some Try.f152 := Try.func152
abbrev F.impl_OnDay : FuncId := 153
theorem C.impl_OnDay : Try.prog.funcs[F.impl_OnDay]? = some Try.f153 := Try.func153
abbrev F.slices_SortStableFunc_setting : FuncId := 154
theorem C.slices_SortStableFunc_setting : Try.prog.funcs[F.slices_SortStableFunc_setting]? = some Try.f154 := Try.func154
abbrev F.impl_settingsOf_1 : FuncId := 155
theorem C.impl_settingsOf_1 : Try.prog.funcs[F.impl_settingsOf_1]? = some Try.f155 := Try.func155
abbrev F.cmp_Compare_int : FuncId := 156
theorem C.cmp_Compare_int : Try.prog.funcs[F.cmp_Compare_int]? = some Try.f156 := Try.func156
abbrev F.impl_isYear : FuncId := 157
theorem C.impl_isYear : Try.prog.funcs[F.impl_isYear]? = some Try.f157 := Try.func157
abbrev F.impl_isSmall : FuncId := 158
theorem C.impl_isSmall : Try.prog.funcs[F.impl_isSmall]? = some Try.f158 := Try.func158
abbrev F.impl_OnOk : FuncId := 159
theorem C.impl_OnOk : Try.prog.funcs[F.impl_OnOk]? = some Try.f159 := Try.func159
abbrev F.slices_ContainsFunc_Rule : FuncId := 160
theorem C.slices_ContainsFunc_Rule : Try.prog.funcs[F.slices_ContainsFunc_Rule]? = some Try.f160 := Try.func160
abbrev F.impl_hasRule_1 : FuncId := 161
theorem C.impl_hasRule_1 : Try.prog.funcs[F.impl_hasRule_1]? = some Try.f161 := Try.func161
abbrev F.slices_IndexFunc_Zone : FuncId := 162
theorem C.slices_IndexFunc_Zone : Try.prog.funcs[F.slices_IndexFunc_Zone]? = some Try.f162 := Try.func162
abbrev F.impl_zoneAt_1 : FuncId := 163
theorem C.impl_zoneAt_1 : Try.prog.funcs[F.impl_zoneAt_1]? = some Try.f163 := Try.func163
abbrev F.spec_OnDay : FuncId := 164
theorem C.spec_OnDay : Try.prog.funcs[F.spec_OnDay]? = some Try.f164 := Try.func164
abbrev F.impl_yearLong : FuncId := 165
theorem C.impl_yearLong : Try.prog.funcs[F.impl_yearLong]? = some Try.f165 := Try.func165
abbrev F.impl_isLeap : FuncId := 166
theorem C.impl_isLeap : Try.prog.funcs[F.impl_isLeap]? = some Try.f166 := Try.func166
abbrev F.spec_l14DrawRight : FuncId := 167
theorem C.spec_l14DrawRight : Try.prog.funcs[F.spec_l14DrawRight]? = some Try.f167 := Try.func167
abbrev F.spec_l9Long : FuncId := 168
theorem C.spec_l9Long : Try.prog.funcs[F.spec_l9Long]? = some Try.f168 := Try.func168
abbrev F.impl_partLong : FuncId := 169
theorem C.impl_partLong : Try.prog.funcs[F.impl_partLong]? = some Try.f169 := Try.func169
abbrev F.spec_l4Seals : FuncId := 170
theorem C.spec_l4Seals : Try.prog.funcs[F.spec_l4Seals]? = some Try.f170 := Try.func170
abbrev F.spec_DiskAppend : FuncId := 171
theorem C.spec_DiskAppend : Try.prog.funcs[F.spec_DiskAppend]? = some Try.f171 := Try.func171
abbrev F.spec_DiskOk : FuncId := 172
theorem C.spec_DiskOk : Try.prog.funcs[F.spec_DiskOk]? = some Try.f172 := Try.func172
abbrev F.spec_l3Name : FuncId := 173
theorem C.spec_l3Name : Try.prog.funcs[F.spec_l3Name]? = some Try.f173 := Try.func173
abbrev F.spec_l3Find : FuncId := 174
theorem C.spec_l3Find : Try.prog.funcs[F.spec_l3Find]? = some Try.f174 := Try.func174
abbrev F.spec_l3Copy : FuncId := 175
theorem C.spec_l3Copy : Try.prog.funcs[F.spec_l3Copy]? = some Try.f175 := Try.func175
abbrev F.spec_l3Put : FuncId := 176
theorem C.spec_l3Put : Try.prog.funcs[F.spec_l3Put]? = some Try.f176 := Try.func176
abbrev F.impl_DiskRead : FuncId := 177
theorem C.impl_DiskRead : Try.prog.funcs[F.impl_DiskRead]? = some Try.f177 := Try.func177
abbrev F.impl_Unseal : FuncId := 178
theorem C.impl_Unseal : Try.prog.funcs[F.impl_Unseal]? = some Try.f178 := Try.func178
abbrev F.impl_reader_bytes : FuncId := 179
theorem C.impl_reader_bytes : Try.prog.funcs[F.impl_reader_bytes]? = some Try.f179 := Try.func179
abbrev F.impl_reader_text : FuncId := 180
theorem C.impl_reader_text : Try.prog.funcs[F.impl_reader_text]? = some Try.f180 := Try.func180
abbrev F.impl_HeldPut : FuncId := 181
theorem C.impl_HeldPut : Try.prog.funcs[F.impl_HeldPut]? = some Try.f181 := Try.func181
abbrev F.laws_toRule : FuncId := 182
theorem C.laws_toRule : Try.prog.funcs[F.laws_toRule]? = some Try.f182 := Try.func182
abbrev F.laws_toZone : FuncId := 183
theorem C.laws_toZone : Try.prog.funcs[F.laws_toZone]? = some Try.f183 := Try.func183
abbrev F.laws_toLink : FuncId := 184
theorem C.laws_toLink : Try.prog.funcs[F.laws_toLink]? = some Try.f184 := Try.func184
abbrev F.laws_eqShift : FuncId := 185
theorem C.laws_eqShift : Try.prog.funcs[F.laws_eqShift]? = some Try.f185 := Try.func185
abbrev F.laws_eqRule : FuncId := 186
theorem C.laws_eqRule : Try.prog.funcs[F.laws_eqRule]? = some Try.f186 := Try.func186
abbrev F.laws_eqZone : FuncId := 187
theorem C.laws_eqZone : Try.prog.funcs[F.laws_eqZone]? = some Try.f187 := Try.func187
abbrev F.laws_eqLink : FuncId := 188
theorem C.laws_eqLink : Try.prog.funcs[F.laws_eqLink]? = some Try.f188 := Try.func188
abbrev F.laws_szFile : FuncId := 189
theorem C.laws_szFile : Try.prog.funcs[F.laws_szFile]? = some Try.f189 := Try.func189
abbrev F.spec_DiskRead : FuncId := 190
theorem C.spec_DiskRead : Try.prog.funcs[F.spec_DiskRead]? = some Try.f190 := Try.func190
abbrev F.spec_Unseal : FuncId := 191
theorem C.spec_Unseal : Try.prog.funcs[F.spec_Unseal]? = some Try.f191 := Try.func191
abbrev F.spec_PieceNew : FuncId := 192
theorem C.spec_PieceNew : Try.prog.funcs[F.spec_PieceNew]? = some Try.f192 := Try.func192
abbrev F.spec_GetText : FuncId := 193
theorem C.spec_GetText : Try.prog.funcs[F.spec_GetText]? = some Try.f193 := Try.func193
abbrev F.spec_PiecePut : FuncId := 194
theorem C.spec_PiecePut : Try.prog.funcs[F.spec_PiecePut]? = some Try.f194 := Try.func194
abbrev F.spec_HeldPut : FuncId := 195
theorem C.spec_HeldPut : Try.prog.funcs[F.spec_HeldPut]? = some Try.f195 := Try.func195
abbrev F.laws_toFile : FuncId := 196
theorem C.laws_toFile : Try.prog.funcs[F.laws_toFile]? = some Try.f196 := Try.func196
abbrev F.laws_eqFile : FuncId := 197
theorem C.laws_eqFile : Try.prog.funcs[F.laws_eqFile]? = some Try.f197 := Try.func197
abbrev F.laws_szStringS : FuncId := 198
theorem C.laws_szStringS : Try.prog.funcs[F.laws_szStringS]? = some Try.f198 := Try.func198
abbrev F.laws_toStringS : FuncId := 199
theorem C.laws_toStringS : Try.prog.funcs[F.laws_toStringS]? = some Try.f199 := Try.func199
abbrev F.impl_copyTexts : FuncId := 200
theorem C.impl_copyTexts : Try.prog.funcs[F.impl_copyTexts]? = some Try.f200 := Try.func200
abbrev F.slices_rotateLeft_Held : FuncId := 201
theorem C.slices_rotateLeft_Held : Try.prog.funcs[F.slices_rotateLeft_Held]? = some Try.f201 := Try.func201
abbrev F.laws_eqStringS : FuncId := 202
theorem C.laws_eqStringS : Try.prog.funcs[F.laws_eqStringS]? = some Try.f202 := Try.func202
abbrev F.spec_l12DrawRule : FuncId := 203
theorem C.spec_l12DrawRule : Try.prog.funcs[F.spec_l12DrawRule]? = some Try.f203 := Try.func203
abbrev F.impl_WeekOf : FuncId := 204
theorem C.impl_WeekOf : Try.prog.funcs[F.impl_WeekOf]? = some Try.f204 := Try.func204
abbrev F.slices_stableCmpFunc_setting : FuncId := 205
theorem C.slices_stableCmpFunc_setting : Try.prog.funcs[F.slices_stableCmpFunc_setting]? = some Try.f205 := Try.func205
abbrev F.cmp_isNaN_int : FuncId := 206
theorem C.cmp_isNaN_int : Try.prog.funcs[F.cmp_isNaN_int]? = some Try.f206 := Try.func206
abbrev F.slices_IndexFunc_Rule : FuncId := 207
theorem C.slices_IndexFunc_Rule : Try.prog.funcs[F.slices_IndexFunc_Rule]? = some Try.f207 := Try.func207
abbrev F.spec_MonthLong : FuncId := 208
theorem C.spec_MonthLong : Try.prog.funcs[F.spec_MonthLong]? = some Try.f208 := Try.func208
abbrev F.spec_DayOf : FuncId := 209
theorem C.spec_DayOf : Try.prog.funcs[F.spec_DayOf]? = some Try.f209 := Try.func209
abbrev F.spec_WeekOf : FuncId := 210
theorem C.spec_WeekOf : Try.prog.funcs[F.spec_WeekOf]? = some Try.f210 := Try.func210
abbrev F.spec_l14DrawText : FuncId := 211
theorem C.spec_l14DrawText : Try.prog.funcs[F.spec_l14DrawText]? = some Try.f211 := Try.func211
abbrev F.spec_Sha : FuncId := 212
theorem C.spec_Sha : Try.prog.funcs[F.spec_Sha]? = some Try.f212 := Try.func212
abbrev F.spec_PartOf : FuncId := 213
theorem C.spec_PartOf : Try.prog.funcs[F.spec_PartOf]? = some Try.f213 := Try.func213
abbrev F.spec_Seal : FuncId := 214
theorem C.spec_Seal : Try.prog.funcs[F.spec_Seal]? = some Try.f214 := Try.func214
abbrev F.spec_l3Size : FuncId := 215
theorem C.spec_l3Size : Try.prog.funcs[F.spec_l3Size]? = some Try.f215 := Try.func215
abbrev F.impl_fileAt : FuncId := 216
theorem C.impl_fileAt : Try.prog.funcs[F.impl_fileAt]? = some Try.f216 := Try.func216
abbrev F.impl_DiskOk : FuncId := 217
theorem C.impl_DiskOk : Try.prog.funcs[F.impl_DiskOk]? = some Try.f217 := Try.func217
abbrev F.impl_sumBytes : FuncId := 218
theorem C.impl_sumBytes : Try.prog.funcs[F.impl_sumBytes]? = some Try.f218 := Try.func218
abbrev F.impl_heldAt : FuncId := 219
theorem C.impl_heldAt : Try.prog.funcs[F.impl_heldAt]? = some Try.f219 := Try.func219
abbrev F.impl_ParcelPut : FuncId := 220
theorem C.impl_ParcelPut : Try.prog.funcs[F.impl_ParcelPut]? = some Try.f220 := Try.func220
abbrev F.laws_toOn : FuncId := 221
theorem C.laws_toOn : Try.prog.funcs[F.laws_toOn]? = some Try.f221 := Try.func221
abbrev F.laws_eqOn : FuncId := 222
theorem C.laws_eqOn : Try.prog.funcs[F.laws_eqOn]? = some Try.f222 := Try.func222
abbrev F.spec_Sum : FuncId := 223
theorem C.spec_Sum : Try.prog.funcs[F.spec_Sum]? = some Try.f223 := Try.func223
abbrev F.spec_PutText : FuncId := 224
theorem C.spec_PutText : Try.prog.funcs[F.spec_PutText]? = some Try.f224 := Try.func224
abbrev F.spec_ParcelPut : FuncId := 225
theorem C.spec_ParcelPut : Try.prog.funcs[F.spec_ParcelPut]? = some Try.f225 := Try.func225
abbrev F.slices_Reverse_Held : FuncId := 226
theorem C.slices_Reverse_Held : Try.prog.funcs[F.slices_Reverse_Held]? = some Try.f226 := Try.func226
abbrev F.slices_insertionSortCmpFunc_setting : FuncId := 227
theorem C.slices_insertionSortCmpFunc_setting : Try.prog.funcs[F.slices_insertionSortCmpFunc_setting]? = some Try.f227 := Try.func227
abbrev F.slices_symMergeCmpFunc_setting : FuncId := 228
theorem C.slices_symMergeCmpFunc_setting : Try.prog.funcs[F.slices_symMergeCmpFunc_setting]? = some Try.f228 := Try.func228
abbrev F.spec_l11Long : FuncId := 229
theorem C.spec_l11Long : Try.prog.funcs[F.spec_l11Long]? = some Try.f229 := Try.func229
abbrev F.spec_l11Begin : FuncId := 230
theorem C.spec_l11Begin : Try.prog.funcs[F.spec_l11Begin]? = some Try.f230 := Try.func230
abbrev F.spec_l1Pick : FuncId := 231
theorem C.spec_l1Pick : Try.prog.funcs[F.spec_l1Pick]? = some Try.f231 := Try.func231
abbrev F.spec_l3DrawText : FuncId := 232
theorem C.spec_l3DrawText : Try.prog.funcs[F.spec_l3DrawText]? = some Try.f232 := Try.func232
abbrev F.spec_l2Block : FuncId := 233
theorem C.spec_l2Block : Try.prog.funcs[F.spec_l2Block]? = some Try.f233 := Try.func233
abbrev F.slices_IndexFunc_File : FuncId := 234
theorem C.slices_IndexFunc_File : Try.prog.funcs[F.slices_IndexFunc_File]? = some Try.f234 := Try.func234
abbrev F.impl_fileAt_1 : FuncId := 235
theorem C.impl_fileAt_1 : Try.prog.funcs[F.impl_fileAt_1]? = some Try.f235 := Try.func235
abbrev F.impl_isFile : FuncId := 236
theorem C.impl_isFile : Try.prog.funcs[F.impl_isFile]? = some Try.f236 := Try.func236
abbrev F.impl_sizeOf : FuncId := 237
theorem C.impl_sizeOf : Try.prog.funcs[F.impl_sizeOf]? = some Try.f237 := Try.func237
abbrev F.impl_Sum : FuncId := 238
theorem C.impl_Sum : Try.prog.funcs[F.impl_Sum]? = some Try.f238 := Try.func238
abbrev F.impl_heldAt_1 : FuncId := 239
theorem C.impl_heldAt_1 : Try.prog.funcs[F.impl_heldAt_1]? = some Try.f239 := Try.func239
abbrev F.slices_rotateCmpFunc_setting : FuncId := 240
theorem C.slices_rotateCmpFunc_setting : Try.prog.funcs[F.slices_rotateCmpFunc_setting]? = some Try.f240 := Try.func240
abbrev F.spec_l11Leap : FuncId := 241
theorem C.spec_l11Leap : Try.prog.funcs[F.spec_l11Leap]? = some Try.f241 := Try.func241
abbrev F.spec_l1DrawBytes : FuncId := 242
theorem C.spec_l1DrawBytes : Try.prog.funcs[F.spec_l1DrawBytes]? = some Try.f242 := Try.func242
abbrev F.spec_l2Turn : FuncId := 243
theorem C.spec_l2Turn : Try.prog.funcs[F.spec_l2Turn]? = some Try.f243 := Try.func243
abbrev F.spec_l2Low : FuncId := 244
theorem C.spec_l2Low : Try.prog.funcs[F.spec_l2Low]? = some Try.f244 := Try.func244
abbrev F.spec_l2Keys : FuncId := 245
theorem C.spec_l2Keys : Try.prog.funcs[F.spec_l2Keys]? = some Try.f245 := Try.func245
abbrev F.slices_swapRangeCmpFunc_setting : FuncId := 246
theorem C.slices_swapRangeCmpFunc_setting : Try.prog.funcs[F.slices_swapRangeCmpFunc_setting]? = some Try.f246 := Try.func246
abbrev F.internal_abi_Type_Align : FuncId := 259
theorem C.internal_abi_Type_Align : Try.prog.funcs[F.internal_abi_Type_Align]? = some Try.f259 := Try.func259
abbrev F.internal_runtime_maps_unhashableTypeError_Error : FuncId := 260
theorem C.internal_runtime_maps_unhashableTypeError_Error : Try.prog.funcs[F.internal_runtime_maps_unhashableTypeError_Error]? = some Try.f260 := Try.func260
abbrev F.internal_runtime_maps_unhashableTypeError_RuntimeError : FuncId := 261
theorem C.internal_runtime_maps_unhashableTypeError_RuntimeError : Try.prog.funcs[F.internal_runtime_maps_unhashableTypeError_RuntimeError]? = some Try.f261 := Try.func261
abbrev F.internal_abi_Kind_String : FuncId := 262
theorem C.internal_abi_Kind_String : Try.prog.funcs[F.internal_abi_Kind_String]? = some Try.f262 := Try.func262
abbrev Y.int64 : TypeId := 2
abbrev Y.int : TypeId := 3
abbrev Y.bool : TypeId := 4
abbrev Y.uint8 : TypeId := 5
abbrev Y.abi_BoundsErrorCode : TypeId := 6
abbrev Y.runtime_boundsError : TypeId := 8
abbrev Y.string : TypeId := 9
abbrev Y.runtime_errorString : TypeId := 10
abbrev Y.runtime_plainError : TypeId := 11
abbrev Y.uintptr : TypeId := 12
abbrev Y.runtime_errorAddressString : TypeId := 14
abbrev Y.int32 : TypeId := 21
abbrev Y.sl_laws_Held : TypeId := 22
abbrev Y.sl_impl_Held : TypeId := 24
abbrev Y.sl_uint8 : TypeId := 31
abbrev Y.sl_impl_Shift : TypeId := 33
abbrev Y.impl_Table : TypeId := 35
abbrev Y.sl_impl_Rule : TypeId := 44
abbrev Y.sl_impl_Zone : TypeId := 45
abbrev Y.sl_impl_Link : TypeId := 46
abbrev Y.impl_Source : TypeId := 48
abbrev Y.impl_Zone : TypeId := 53
abbrev Y.impl_Shift : TypeId := 61
abbrev Y.sl_string : TypeId := 68
abbrev Y.impl_Parcel : TypeId := 70
abbrev Y.impl_Held : TypeId := 72
abbrev Y.sl_impl_File : TypeId := 74
abbrev Y.impl_Disk : TypeId := 76
abbrev Y.sl_laws_Rule : TypeId := 80
abbrev Y.sl_laws_Zone : TypeId := 81
abbrev Y.sl_laws_Link : TypeId := 82
abbrev Y.laws_Source : TypeId := 84
abbrev Y.sl_laws_File : TypeId := 91
abbrev Y.laws_Disk : TypeId := 93
abbrev Y.laws_Parcel : TypeId := 100
abbrev Y.laws_Held : TypeId := 102
abbrev Y.impl_reader : TypeId := 121
abbrev Y.sl_int : TypeId := 126
abbrev Y.impl_On : TypeId := 134
abbrev Y.impl_Rule : TypeId := 136
abbrev Y.impl_Link : TypeId := 140
abbrev Y.sl_impl_setting : TypeId := 141
abbrev Y.impl_setting : TypeId := 144
abbrev Y.spec_l1Cur : TypeId := 182
abbrev Y.impl_File : TypeId := 199
abbrev Y.laws_On : TypeId := 208
abbrev Y.laws_Rule : TypeId := 210
abbrev Y.laws_Zone : TypeId := 212
abbrev Y.laws_Link : TypeId := 214
abbrev Y.laws_File : TypeId := 220
abbrev Y.uint : TypeId := 227
abbrev Y.uint32 : TypeId := 255
abbrev Y.abi_TFlag : TypeId := 256
abbrev Y.abi_Kind : TypeId := 257
abbrev Y.abi_NameOff : TypeId := 260
abbrev Y.abi_TypeOff : TypeId := 261

end Go.TL
