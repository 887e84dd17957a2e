/- The functions by name, and facts of the type table: printed by a program of this work out of the translation. No conditions. -/
import Derived.Test.YtdnclbghhdflmaaProg
import Derived.Test.YtdnclbghhdflmaaTGo3
import Derived.KernelRfl
namespace Go.TL
open Go.Proofs Go.RowKit

@[go_sem] theorem t2_sz : szT Try.prog 2 = some 1 := by kernel_rfl
@[go_sem] theorem t2_by : bytesT Try.prog 2 = some 8 := by kernel_rfl
@[go_sem] theorem t2_ag : aggT Try.prog 2 = some false := by kernel_rfl
@[go_sem] theorem t2_ze : zeroT Try.prog 2 = some [.v (.int .i64 0)] := by kernel_rfl
@[go_sem] theorem t2_un : Try.prog.underlying 2 = some (.int .i64) := by kernel_rfl
@[go_sem] theorem t2_ec (m : Nat) (k : IntKind) (a b : Int) : eqC Try.prog (m + 1) 2 [.int k a] [.int k b] = some (decide (a = b)) := eqC_int t2_un k a b
@[go_sem] theorem t3_sz : szT Try.prog 3 = some 1 := by kernel_rfl
@[go_sem] theorem t3_by : bytesT Try.prog 3 = some 8 := by kernel_rfl
@[go_sem] theorem t3_ag : aggT Try.prog 3 = some false := by kernel_rfl
@[go_sem] theorem t3_ze : zeroT Try.prog 3 = some [.v (.int .i64 0)] := by kernel_rfl
@[go_sem] theorem t3_un : Try.prog.underlying 3 = some (.int .i64) := by kernel_rfl
@[go_sem] theorem t3_ec (m : Nat) (k : IntKind) (a b : Int) : eqC Try.prog (m + 1) 3 [.int k a] [.int k b] = some (decide (a = b)) := eqC_int t3_un k a b
@[go_sem] theorem t4_sz : szT Try.prog 4 = some 1 := by kernel_rfl
@[go_sem] theorem t4_by : bytesT Try.prog 4 = some 1 := by kernel_rfl
@[go_sem] theorem t4_ag : aggT Try.prog 4 = some false := by kernel_rfl
@[go_sem] theorem t4_ze : zeroT Try.prog 4 = some [.v (.bool false)] := by kernel_rfl
@[go_sem] theorem t4_un : Try.prog.underlying 4 = some .bool := by kernel_rfl
@[go_sem] theorem t4_ec (m : Nat) (a b : Bool) : eqC Try.prog (m + 1) 4 [.bool a] [.bool b] = some (a == b) := eqC_bool t4_un a b
@[go_sem] theorem t4_beq (xo yo : Operand) (p q : Prop) [Decidable p] [Decidable q] : binT Try.prog .eql 4 xo yo (.v (.bool (decide p))) (.v (.bool (decide q))) = some (.v (.bool (decide (p ↔ q)))) := b_beq xo yo t4_un p q
@[go_sem] theorem t4_bne (xo yo : Operand) (p q : Prop) [Decidable p] [Decidable q] : binT Try.prog .neq 4 xo yo (.v (.bool (decide p))) (.v (.bool (decide q))) = some (.v (.bool (decide (¬ (p ↔ q))))) := b_bne xo yo t4_un p q
@[go_sem] theorem t5_sz : szT Try.prog 5 = some 1 := by kernel_rfl
@[go_sem] theorem t5_by : bytesT Try.prog 5 = some 1 := by kernel_rfl
@[go_sem] theorem t5_ag : aggT Try.prog 5 = some false := by kernel_rfl
@[go_sem] theorem t5_ze : zeroT Try.prog 5 = some [.v (.int .u8 0)] := by kernel_rfl
@[go_sem] theorem t5_un : Try.prog.underlying 5 = some (.int .u8) := by kernel_rfl
@[go_sem] theorem t5_ec (m : Nat) (k : IntKind) (a b : Int) : eqC Try.prog (m + 1) 5 [.int k a] [.int k b] = some (decide (a = b)) := eqC_int t5_un k a b
@[go_sem] theorem t9_sz : szT Try.prog 9 = some 1 := by kernel_rfl
@[go_sem] theorem t9_by : bytesT Try.prog 9 = some 16 := by kernel_rfl
@[go_sem] theorem t9_ag : aggT Try.prog 9 = some false := by kernel_rfl
@[go_sem] theorem t9_ze : zeroT Try.prog 9 = some [.v (.string ⟨#[]⟩)] := by kernel_rfl
@[go_sem] theorem t9_un : Try.prog.underlying 9 = some .string := by kernel_rfl
@[go_sem] theorem t9_ec (m : Nat) (a b : ByteArray) : eqC Try.prog (m + 1) 9 [.string a] [.string b] = some (decide (a = b)) := eqC_str t9_un a b
@[go_sem] theorem t9_ni : notInt Try.prog 9 = true := by kernel_rfl
@[go_sem] theorem t12_sz : szT Try.prog 12 = some 1 := by kernel_rfl
@[go_sem] theorem t12_by : bytesT Try.prog 12 = some 8 := by kernel_rfl
@[go_sem] theorem t12_ag : aggT Try.prog 12 = some false := by kernel_rfl
@[go_sem] theorem t12_ze : zeroT Try.prog 12 = some [.v (.int .u64 0)] := by kernel_rfl
@[go_sem] theorem t12_un : Try.prog.underlying 12 = some (.int .u64) := by kernel_rfl
@[go_sem] theorem t12_ec (m : Nat) (k : IntKind) (a b : Int) : eqC Try.prog (m + 1) 12 [.int k a] [.int k b] = some (decide (a = b)) := eqC_int t12_un k a b
@[go_sem] theorem t13_sz : szT Try.prog 13 = some 2 := by kernel_rfl
@[go_sem] theorem t13_by : bytesT Try.prog 13 = some 24 := by kernel_rfl
@[go_sem] theorem t13_ag : aggT Try.prog 13 = some true := by kernel_rfl
@[go_sem] theorem t13_ze : zeroT Try.prog 13 = some [.v (.string ⟨#[]⟩), .v (.int .u64 0)] := by kernel_rfl
@[go_sem] theorem t13_f0 : fldT Try.prog 13 0 = some (0, 1, 9) := by kernel_rfl
@[go_sem] theorem t13_f1 : fldT Try.prog 13 1 = some (1, 1, 12) := by kernel_rfl
@[go_sem] theorem t13_fo : fldsOf Try.prog 13 = some [(0, 1), (1, 1)] := by kernel_rfl
@[go_sem] theorem t21_sz : szT Try.prog 21 = some 1 := by kernel_rfl
@[go_sem] theorem t21_by : bytesT Try.prog 21 = some 4 := by kernel_rfl
@[go_sem] theorem t21_ag : aggT Try.prog 21 = some false := by kernel_rfl
@[go_sem] theorem t21_ze : zeroT Try.prog 21 = some [.v (.int .i32 0)] := by kernel_rfl
@[go_sem] theorem t21_un : Try.prog.underlying 21 = some (.int .i32) := by kernel_rfl
@[go_sem] theorem t21_ec (m : Nat) (k : IntKind) (a b : Int) : eqC Try.prog (m + 1) 21 [.int k a] [.int k b] = some (decide (a = b)) := eqC_int t21_un k a b
@[go_sem] theorem t24_sz : szT Try.prog 24 = some 6 := by kernel_rfl
@[go_sem] theorem t24_by : bytesT Try.prog 24 = some 56 := by kernel_rfl
@[go_sem] theorem t24_ag : aggT Try.prog 24 = some true := by kernel_rfl
@[go_sem] theorem t24_ze : zeroT Try.prog 24 = some [.v (.int .i64 0), .v (.int .i64 0), .v (.int .i64 0), .v (.int .i64 0), .v (.int .i64 0), .v (.string ⟨#[]⟩)] := by kernel_rfl
@[go_sem] theorem t24_f0 : fldT Try.prog 24 0 = some (0, 1, 3) := by kernel_rfl
@[go_sem] theorem t24_f1 : fldT Try.prog 24 1 = some (1, 1, 3) := by kernel_rfl
@[go_sem] theorem t24_f2 : fldT Try.prog 24 2 = some (2, 1, 3) := by kernel_rfl
@[go_sem] theorem t24_f3 : fldT Try.prog 24 3 = some (3, 1, 3) := by kernel_rfl
@[go_sem] theorem t24_f4 : fldT Try.prog 24 4 = some (4, 1, 3) := by kernel_rfl
@[go_sem] theorem t24_f5 : fldT Try.prog 24 5 = some (5, 1, 9) := by kernel_rfl
@[go_sem] theorem t24_fo : fldsOf Try.prog 24 = some [(0, 1), (1, 1), (2, 1), (3, 1), (4, 1), (5, 1)] := by kernel_rfl
@[go_sem] theorem t25_sz : szT Try.prog 25 = some 6 := by kernel_rfl
@[go_sem] theorem t25_by : bytesT Try.prog 25 = some 56 := by kernel_rfl
@[go_sem] theorem t25_ag : aggT Try.prog 25 = some true := by kernel_rfl
@[go_sem] theorem t25_ze : zeroT Try.prog 25 = some [.v (.int .i64 0), .v (.int .i64 0), .v (.int .i64 0), .v (.int .i64 0), .v (.int .i64 0), .v (.string ⟨#[]⟩)] := by kernel_rfl
@[go_sem] theorem t25_f0 : fldT Try.prog 25 0 = some (0, 1, 3) := by kernel_rfl
@[go_sem] theorem t25_f1 : fldT Try.prog 25 1 = some (1, 1, 3) := by kernel_rfl
@[go_sem] theorem t25_f2 : fldT Try.prog 25 2 = some (2, 1, 3) := by kernel_rfl
@[go_sem] theorem t25_f3 : fldT Try.prog 25 3 = some (3, 1, 3) := by kernel_rfl
@[go_sem] theorem t25_f4 : fldT Try.prog 25 4 = some (4, 1, 3) := by kernel_rfl
@[go_sem] theorem t25_f5 : fldT Try.prog 25 5 = some (5, 1, 9) := by kernel_rfl
@[go_sem] theorem t25_fo : fldsOf Try.prog 25 = some [(0, 1), (1, 1), (2, 1), (3, 1), (4, 1), (5, 1)] := by kernel_rfl
@[go_sem] theorem t25_eg : Try.prog.eqGuardType Try.prog.depth 25 = false := by kernel_rfl
@[go_sem] theorem t25_fl : eqFlds Try.prog 25 = some [(3, 0), (3, 1), (3, 2), (3, 3), (3, 4), (9, 5)] := by kernel_rfl
@[go_sem] theorem t25_eq (neg : Bool) (xs ys : List T) : eqAggT Try.prog neg 25 (.agg xs) (.agg ys) = (match toVs xs, toVs ys with | some us, some ws => (eqL Try.prog 19 [(3, 0), (3, 1), (3, 2), (3, 3), (3, 4), (9, 5)] us ws).map fun b => .v (.bool (if neg = true then !b else b)) | _, _ => none) := eqAgg_t t25_eg t25_ag t25_fl neg xs ys
@[go_sem] theorem t28_sz : szT Try.prog 28 = some 6 := by kernel_rfl
@[go_sem] theorem t28_by : bytesT Try.prog 28 = some 56 := by kernel_rfl
@[go_sem] theorem t28_ag : aggT Try.prog 28 = some true := by kernel_rfl
@[go_sem] theorem t28_ze : zeroT Try.prog 28 = some [.v (.int .i64 0), .v (.int .i64 0), .v (.int .i64 0), .v (.int .i64 0), .v (.int .i64 0), .v (.string ⟨#[]⟩)] := by kernel_rfl
@[go_sem] theorem t28_f0 : fldT Try.prog 28 0 = some (0, 1, 3) := by kernel_rfl
@[go_sem] theorem t28_f1 : fldT Try.prog 28 1 = some (1, 1, 3) := by kernel_rfl
@[go_sem] theorem t28_f2 : fldT Try.prog 28 2 = some (2, 1, 3) := by kernel_rfl
@[go_sem] theorem t28_f3 : fldT Try.prog 28 3 = some (3, 1, 3) := by kernel_rfl
@[go_sem] theorem t28_f4 : fldT Try.prog 28 4 = some (4, 1, 3) := by kernel_rfl
@[go_sem] theorem t28_f5 : fldT Try.prog 28 5 = some (5, 1, 9) := by kernel_rfl
@[go_sem] theorem t28_fo : fldsOf Try.prog 28 = some [(0, 1), (1, 1), (2, 1), (3, 1), (4, 1), (5, 1)] := by kernel_rfl
@[go_sem] theorem t28_eg : Try.prog.eqGuardType Try.prog.depth 28 = false := by kernel_rfl
@[go_sem] theorem t28_fl : eqFlds Try.prog 28 = some [(3, 0), (3, 1), (3, 2), (3, 3), (3, 4), (9, 5)] := by kernel_rfl
@[go_sem] theorem t28_eq (neg : Bool) (xs ys : List T) : eqAggT Try.prog neg 28 (.agg xs) (.agg ys) = (match toVs xs, toVs ys with | some us, some ws => (eqL Try.prog 19 [(3, 0), (3, 1), (3, 2), (3, 3), (3, 4), (9, 5)] us ws).map fun b => .v (.bool (if neg = true then !b else b)) | _, _ => none) := eqAgg_t t28_eg t28_ag t28_fl neg xs ys
@[go_sem] theorem t31_sz : szT Try.prog 31 = some 1 := by kernel_rfl
@[go_sem] theorem t31_by : bytesT Try.prog 31 = some 24 := by kernel_rfl
@[go_sem] theorem t31_ag : aggT Try.prog 31 = some false := by kernel_rfl
@[go_sem] theorem t31_ze : zeroT Try.prog 31 = some [.v (.slice none 0 0)] := by kernel_rfl
@[go_sem] theorem t31_el : elemT Try.prog 31 = some 66 := by kernel_rfl
@[go_sem] theorem t31_un : Try.prog.underlying 31 = some (.slice 66) := by kernel_rfl
@[go_sem] theorem t31_ni : notInt Try.prog 31 = true := by kernel_rfl
@[go_sem] theorem t34_sz : szT Try.prog 34 = some 1 := by kernel_rfl
@[go_sem] theorem t34_by : bytesT Try.prog 34 = some 24 := by kernel_rfl
@[go_sem] theorem t34_ag : aggT Try.prog 34 = some false := by kernel_rfl
@[go_sem] theorem t34_ze : zeroT Try.prog 34 = some [.v (.slice none 0 0)] := by kernel_rfl
@[go_sem] theorem t34_el : elemT Try.prog 34 = some 50 := by kernel_rfl
@[go_sem] theorem t34_un : Try.prog.underlying 34 = some (.slice 50) := by kernel_rfl
@[go_sem] theorem t34_ni : notInt Try.prog 34 = true := by kernel_rfl
@[go_sem] theorem t42_sz : szT Try.prog 42 = some 1 := by kernel_rfl
@[go_sem] theorem t42_by : bytesT Try.prog 42 = some 24 := by kernel_rfl
@[go_sem] theorem t42_ag : aggT Try.prog 42 = some false := by kernel_rfl
@[go_sem] theorem t42_ze : zeroT Try.prog 42 = some [.v (.slice none 0 0)] := by kernel_rfl
@[go_sem] theorem t42_el : elemT Try.prog 42 = some 5 := by kernel_rfl
@[go_sem] theorem t42_un : Try.prog.underlying 42 = some (.slice 5) := by kernel_rfl
@[go_sem] theorem t42_ni : notInt Try.prog 42 = true := by kernel_rfl
@[go_sem] theorem t42_bs : byteSlice Try.prog 42 = true := by kernel_rfl
@[go_sem] theorem t46_sz : szT Try.prog 46 = some 1 := by kernel_rfl
@[go_sem] theorem t46_by : bytesT Try.prog 46 = some 24 := by kernel_rfl
@[go_sem] theorem t46_ag : aggT Try.prog 46 = some false := by kernel_rfl
@[go_sem] theorem t46_ze : zeroT Try.prog 46 = some [.v (.slice none 0 0)] := by kernel_rfl
@[go_sem] theorem t46_el : elemT Try.prog 46 = some 9 := by kernel_rfl
@[go_sem] theorem t46_un : Try.prog.underlying 46 = some (.slice 9) := by kernel_rfl
@[go_sem] theorem t46_ni : notInt Try.prog 46 = true := by kernel_rfl
@[go_sem] theorem t47_sz : szT Try.prog 47 = some 3 := by kernel_rfl
@[go_sem] theorem t47_by : bytesT Try.prog 47 = some 48 := by kernel_rfl
@[go_sem] theorem t47_ag : aggT Try.prog 47 = some true := by kernel_rfl
@[go_sem] theorem t47_ze : zeroT Try.prog 47 = some [.v (.int .i64 0), .v (.string ⟨#[]⟩), .v (.slice none 0 0)] := by kernel_rfl
@[go_sem] theorem t47_f0 : fldT Try.prog 47 0 = some (0, 1, 3) := by kernel_rfl
@[go_sem] theorem t47_f1 : fldT Try.prog 47 1 = some (1, 1, 9) := by kernel_rfl
@[go_sem] theorem t47_f2 : fldT Try.prog 47 2 = some (2, 1, 46) := by kernel_rfl
@[go_sem] theorem t47_fo : fldsOf Try.prog 47 = some [(0, 1), (1, 1), (2, 1)] := by kernel_rfl
@[go_sem] theorem t48_sz : szT Try.prog 48 = some 3 := by kernel_rfl
@[go_sem] theorem t48_by : bytesT Try.prog 48 = some 48 := by kernel_rfl
@[go_sem] theorem t48_ag : aggT Try.prog 48 = some true := by kernel_rfl
@[go_sem] theorem t48_ze : zeroT Try.prog 48 = some [.v (.int .i64 0), .v (.string ⟨#[]⟩), .v (.slice none 0 0)] := by kernel_rfl
@[go_sem] theorem t48_f0 : fldT Try.prog 48 0 = some (0, 1, 3) := by kernel_rfl
@[go_sem] theorem t48_f1 : fldT Try.prog 48 1 = some (1, 1, 9) := by kernel_rfl
@[go_sem] theorem t48_f2 : fldT Try.prog 48 2 = some (2, 1, 46) := by kernel_rfl
@[go_sem] theorem t48_fo : fldsOf Try.prog 48 = some [(0, 1), (1, 1), (2, 1)] := by kernel_rfl
@[go_sem] theorem t49_sz : szT Try.prog 49 = some 4 := by kernel_rfl
@[go_sem] theorem t49_by : bytesT Try.prog 49 = some 56 := by kernel_rfl
@[go_sem] theorem t49_ag : aggT Try.prog 49 = some true := by kernel_rfl
@[go_sem] theorem t49_ze : zeroT Try.prog 49 = some [.v (.int .i64 0), .v (.int .i64 0), .v (.string ⟨#[]⟩), .v (.slice none 0 0)] := by kernel_rfl
@[go_sem] theorem t49_f0 : fldT Try.prog 49 0 = some (0, 1, 3) := by kernel_rfl
@[go_sem] theorem t49_f1 : fldT Try.prog 49 1 = some (1, 3, 48) := by kernel_rfl
@[go_sem] theorem t49_fo : fldsOf Try.prog 49 = some [(0, 1), (1, 3)] := by kernel_rfl
@[go_sem] theorem t50_sz : szT Try.prog 50 = some 4 := by kernel_rfl
@[go_sem] theorem t50_by : bytesT Try.prog 50 = some 56 := by kernel_rfl
@[go_sem] theorem t50_ag : aggT Try.prog 50 = some true := by kernel_rfl
@[go_sem] theorem t50_ze : zeroT Try.prog 50 = some [.v (.int .i64 0), .v (.int .i64 0), .v (.string ⟨#[]⟩), .v (.slice none 0 0)] := by kernel_rfl
@[go_sem] theorem t50_f0 : fldT Try.prog 50 0 = some (0, 1, 3) := by kernel_rfl
@[go_sem] theorem t50_f1 : fldT Try.prog 50 1 = some (1, 3, 48) := by kernel_rfl
@[go_sem] theorem t50_fo : fldsOf Try.prog 50 = some [(0, 1), (1, 3)] := by kernel_rfl
@[go_sem] theorem t64_sz : szT Try.prog 64 = some 3 := by kernel_rfl
@[go_sem] theorem t64_by : bytesT Try.prog 64 = some 48 := by kernel_rfl
@[go_sem] theorem t64_ag : aggT Try.prog 64 = some true := by kernel_rfl
@[go_sem] theorem t64_ze : zeroT Try.prog 64 = some [.v (.int .i64 0), .v (.string ⟨#[]⟩), .v (.slice none 0 0)] := by kernel_rfl
@[go_sem] theorem t64_f0 : fldT Try.prog 64 0 = some (0, 1, 3) := by kernel_rfl
@[go_sem] theorem t64_f1 : fldT Try.prog 64 1 = some (1, 1, 9) := by kernel_rfl
@[go_sem] theorem t64_f2 : fldT Try.prog 64 2 = some (2, 1, 46) := by kernel_rfl
@[go_sem] theorem t64_fo : fldsOf Try.prog 64 = some [(0, 1), (1, 1), (2, 1)] := by kernel_rfl
@[go_sem] theorem t65_sz : szT Try.prog 65 = some 4 := by kernel_rfl
@[go_sem] theorem t65_by : bytesT Try.prog 65 = some 56 := by kernel_rfl
@[go_sem] theorem t65_ag : aggT Try.prog 65 = some true := by kernel_rfl
@[go_sem] theorem t65_ze : zeroT Try.prog 65 = some [.v (.int .i64 0), .v (.int .i64 0), .v (.string ⟨#[]⟩), .v (.slice none 0 0)] := by kernel_rfl
@[go_sem] theorem t65_f0 : fldT Try.prog 65 0 = some (0, 1, 3) := by kernel_rfl
@[go_sem] theorem t65_f1 : fldT Try.prog 65 1 = some (1, 3, 64) := by kernel_rfl
@[go_sem] theorem t65_fo : fldsOf Try.prog 65 = some [(0, 1), (1, 3)] := by kernel_rfl
@[go_sem] theorem t66_sz : szT Try.prog 66 = some 4 := by kernel_rfl
@[go_sem] theorem t66_by : bytesT Try.prog 66 = some 56 := by kernel_rfl
@[go_sem] theorem t66_ag : aggT Try.prog 66 = some true := by kernel_rfl
@[go_sem] theorem t66_ze : zeroT Try.prog 66 = some [.v (.int .i64 0), .v (.int .i64 0), .v (.string ⟨#[]⟩), .v (.slice none 0 0)] := by kernel_rfl
@[go_sem] theorem t66_f0 : fldT Try.prog 66 0 = some (0, 1, 3) := by kernel_rfl
@[go_sem] theorem t66_f1 : fldT Try.prog 66 1 = some (1, 3, 64) := by kernel_rfl
@[go_sem] theorem t66_fo : fldsOf Try.prog 66 = some [(0, 1), (1, 3)] := by kernel_rfl
@[go_sem] theorem t89_sz : szT Try.prog 89 = some 1 := by kernel_rfl
@[go_sem] theorem t89_by : bytesT Try.prog 89 = some 24 := by kernel_rfl
@[go_sem] theorem t89_ag : aggT Try.prog 89 = some false := by kernel_rfl
@[go_sem] theorem t89_ze : zeroT Try.prog 89 = some [.v (.slice none 0 0)] := by kernel_rfl
@[go_sem] theorem t89_el : elemT Try.prog 89 = some 3 := by kernel_rfl
@[go_sem] theorem t89_un : Try.prog.underlying 89 = some (.slice 3) := by kernel_rfl
@[go_sem] theorem t89_ni : notInt Try.prog 89 = true := by kernel_rfl
@[go_sem] theorem t95_sz : szT Try.prog 95 = some 3 := by kernel_rfl
@[go_sem] theorem t95_by : bytesT Try.prog 95 = some 40 := by kernel_rfl
@[go_sem] theorem t95_ag : aggT Try.prog 95 = some true := by kernel_rfl
@[go_sem] theorem t95_ze : zeroT Try.prog 95 = some [.v (.slice none 0 0), .v (.int .i64 0), .v (.int .i64 0)] := by kernel_rfl
@[go_sem] theorem t95_f0 : fldT Try.prog 95 0 = some (0, 1, 42) := by kernel_rfl
@[go_sem] theorem t95_f1 : fldT Try.prog 95 1 = some (1, 1, 3) := by kernel_rfl
@[go_sem] theorem t95_f2 : fldT Try.prog 95 2 = some (2, 1, 3) := by kernel_rfl
@[go_sem] theorem t95_fo : fldsOf Try.prog 95 = some [(0, 1), (1, 1), (2, 1)] := by kernel_rfl
@[go_sem] theorem t96_sz : szT Try.prog 96 = some 3 := by kernel_rfl
@[go_sem] theorem t96_by : bytesT Try.prog 96 = some 40 := by kernel_rfl
@[go_sem] theorem t96_ag : aggT Try.prog 96 = some true := by kernel_rfl
@[go_sem] theorem t96_ze : zeroT Try.prog 96 = some [.v (.slice none 0 0), .v (.int .i64 0), .v (.int .i64 0)] := by kernel_rfl
@[go_sem] theorem t96_f0 : fldT Try.prog 96 0 = some (0, 1, 42) := by kernel_rfl
@[go_sem] theorem t96_f1 : fldT Try.prog 96 1 = some (1, 1, 3) := by kernel_rfl
@[go_sem] theorem t96_f2 : fldT Try.prog 96 2 = some (2, 1, 3) := by kernel_rfl
@[go_sem] theorem t96_fo : fldsOf Try.prog 96 = some [(0, 1), (1, 1), (2, 1)] := by kernel_rfl
@[go_sem] theorem t103_sz : szT Try.prog 103 = some 1 := by kernel_rfl
@[go_sem] theorem t103_by : bytesT Try.prog 103 = some 8 := by kernel_rfl
@[go_sem] theorem t103_ag : aggT Try.prog 103 = some false := by kernel_rfl
@[go_sem] theorem t103_ze : zeroT Try.prog 103 = some [.v (.int .u64 0)] := by kernel_rfl
@[go_sem] theorem t103_un : Try.prog.underlying 103 = some (.int .u64) := by kernel_rfl
@[go_sem] theorem t103_ec (m : Nat) (k : IntKind) (a b : Int) : eqC Try.prog (m + 1) 103 [.int k a] [.int k b] = some (decide (a = b)) := eqC_int t103_un k a b
@[go_sem] theorem t118_sz : szT Try.prog 118 = some 8 := by kernel_rfl
@[go_sem] theorem t118_by : bytesT Try.prog 118 = some 64 := by kernel_rfl
@[go_sem] theorem t118_ag : aggT Try.prog 118 = some true := by kernel_rfl
@[go_sem] theorem t118_ze : zeroT Try.prog 118 = some [.v (.int .i64 0), .v (.int .i64 0), .v (.int .i64 0), .v (.int .i64 0), .v (.int .i64 0), .v (.int .i64 0), .v (.int .i64 0), .v (.int .i64 0)] := by kernel_rfl
@[go_sem] theorem t118_fo : fldsOf Try.prog 118 = none := by kernel_rfl
@[go_sem] theorem t118_ea : eArr Try.prog 118 = some 1 := by kernel_rfl
@[go_sem] theorem t118_ar : arrT Try.prog 118 = some (8, 3) := by kernel_rfl
@[go_sem] theorem t118_el : elemT Try.prog 118 = none := by kernel_rfl
@[go_sem] theorem t124_sz : szT Try.prog 124 = some 64 := by kernel_rfl
@[go_sem] theorem t124_by : bytesT Try.prog 124 = some 512 := by kernel_rfl
@[go_sem] theorem t124_ag : aggT Try.prog 124 = some true := by kernel_rfl
@[go_sem] theorem t124_ze : zeroT Try.prog 124 = some [.v (.int .i64 0), .v (.int .i64 0), .v (.int .i64 0), .v (.int .i64 0), .v (.int .i64 0), .v (.int .i64 0), .v (.int .i64 0), .v (.int .i64 0), .v (.int .i64 0), .v (.int .i64 0), .v (.int .i64 0), .v (.int .i64 0), .v (.int .i64 0), .v (.int .i64 0), .v (.int .i64 0), .v (.int .i64 0), .v (.int .i64 0), .v (.int .i64 0), .v (.int .i64 0), .v (.int .i64 0), .v (.int .i64 0), .v (.int .i64 0), .v (.int .i64 0), .v (.int .i64 0), .v (.int .i64 0), .v (.int .i64 0), .v (.int .i64 0), .v (.int .i64 0), .v (.int .i64 0), .v (.int .i64 0), .v (.int .i64 0), .v (.int .i64 0), .v (.int .i64 0), .v (.int .i64 0), .v (.int .i64 0), .v (.int .i64 0), .v (.int .i64 0), .v (.int .i64 0), .v (.int .i64 0), .v (.int .i64 0), .v (.int .i64 0), .v (.int .i64 0), .v (.int .i64 0), .v (.int .i64 0), .v (.int .i64 0), .v (.int .i64 0), .v (.int .i64 0), .v (.int .i64 0), .v (.int .i64 0), .v (.int .i64 0), .v (.int .i64 0), .v (.int .i64 0), .v (.int .i64 0), .v (.int .i64 0), .v (.int .i64 0), .v (.int .i64 0), .v (.int .i64 0), .v (.int .i64 0), .v (.int .i64 0), .v (.int .i64 0), .v (.int .i64 0), .v (.int .i64 0), .v (.int .i64 0), .v (.int .i64 0)] := by kernel_rfl
@[go_sem] theorem t124_fo : fldsOf Try.prog 124 = none := by kernel_rfl
@[go_sem] theorem t124_ea : eArr Try.prog 124 = some 1 := by kernel_rfl
@[go_sem] theorem t124_ar : arrT Try.prog 124 = some (64, 3) := by kernel_rfl
@[go_sem] theorem t124_el : elemT Try.prog 124 = none := by kernel_rfl
@[go_sem] theorem t136_sz : szT Try.prog 136 = some 1 := by kernel_rfl
@[go_sem] theorem t136_by : bytesT Try.prog 136 = some 4 := by kernel_rfl
@[go_sem] theorem t136_ag : aggT Try.prog 136 = some false := by kernel_rfl
@[go_sem] theorem t136_ze : zeroT Try.prog 136 = some [.v (.int .u32 0)] := by kernel_rfl
@[go_sem] theorem t136_un : Try.prog.underlying 136 = some (.int .u32) := by kernel_rfl
@[go_sem] theorem t136_ec (m : Nat) (k : IntKind) (a b : Int) : eqC Try.prog (m + 1) 136 [.int k a] [.int k b] = some (decide (a = b)) := eqC_int t136_un k a b
abbrev F.laws_FnExactPiecePut : FuncId := 3
theorem C.laws_FnExactPiecePut : Try.prog.funcs[F.laws_FnExactPiecePut]? = some Try.f3 := Try.func3
abbrev F.laws_FnExactDeedOk : FuncId := 4
theorem C.laws_FnExactDeedOk : Try.prog.funcs[F.laws_FnExactDeedOk]? = some Try.f4 := Try.func4
abbrev F.laws_FnExactPieceNew : FuncId := 5
theorem C.laws_FnExactPieceNew : Try.prog.funcs[F.laws_FnExactPieceNew]? = some Try.f5 := Try.func5
abbrev F.laws_FnExactHeldsOk : FuncId := 6
theorem C.laws_FnExactHeldsOk : Try.prog.funcs[F.laws_FnExactHeldsOk]? = some Try.f6 := Try.func6
abbrev F.laws_FnExactHeldPut : FuncId := 7
theorem C.laws_FnExactHeldPut : Try.prog.funcs[F.laws_FnExactHeldPut]? = some Try.f7 := Try.func7
abbrev F.laws_FnHeldPut : FuncId := 8
theorem C.laws_FnHeldPut : Try.prog.funcs[F.laws_FnHeldPut]? = some Try.f8 := Try.func8
abbrev F.laws_FnExactHeldText : FuncId := 9
theorem C.laws_FnExactHeldText : Try.prog.funcs[F.laws_FnExactHeldText]? = some Try.f9 := Try.func9
abbrev F.laws_FnExactHeldNew : FuncId := 10
theorem C.laws_FnExactHeldNew : Try.prog.funcs[F.laws_FnExactHeldNew]? = some Try.f10 := Try.func10
abbrev F.spec_PiecePut : FuncId := 11
theorem C.spec_PiecePut : Try.prog.funcs[F.spec_PiecePut]? = some Try.f11 := Try.func11
abbrev F.impl_PiecePut : FuncId := 12
theorem C.impl_PiecePut : Try.prog.funcs[F.impl_PiecePut]? = some Try.f12 := Try.func12
abbrev F.laws_szDeed : FuncId := 13
theorem C.laws_szDeed : Try.prog.funcs[F.laws_szDeed]? = some Try.f13 := Try.func13
abbrev F.spec_DeedOk : FuncId := 14
theorem C.spec_DeedOk : Try.prog.funcs[F.spec_DeedOk]? = some Try.f14 := Try.func14
abbrev F.laws_toDeed : FuncId := 15
theorem C.laws_toDeed : Try.prog.funcs[F.laws_toDeed]? = some Try.f15 := Try.func15
abbrev F.impl_DeedOk : FuncId := 16
theorem C.impl_DeedOk : Try.prog.funcs[F.impl_DeedOk]? = some Try.f16 := Try.func16
abbrev F.spec_PieceNew : FuncId := 17
theorem C.spec_PieceNew : Try.prog.funcs[F.spec_PieceNew]? = some Try.f17 := Try.func17
abbrev F.impl_PieceNew : FuncId := 18
theorem C.impl_PieceNew : Try.prog.funcs[F.impl_PieceNew]? = some Try.f18 := Try.func18
abbrev F.laws_szHeldS : FuncId := 19
theorem C.laws_szHeldS : Try.prog.funcs[F.laws_szHeldS]? = some Try.f19 := Try.func19
abbrev F.spec_HeldsOk : FuncId := 20
theorem C.spec_HeldsOk : Try.prog.funcs[F.spec_HeldsOk]? = some Try.f20 := Try.func20
abbrev F.laws_toHeldS : FuncId := 21
theorem C.laws_toHeldS : Try.prog.funcs[F.laws_toHeldS]? = some Try.f21 := Try.func21
abbrev F.impl_HeldsOk : FuncId := 22
theorem C.impl_HeldsOk : Try.prog.funcs[F.impl_HeldsOk]? = some Try.f22 := Try.func22
abbrev F.laws_eqHeldS : FuncId := 23
theorem C.laws_eqHeldS : Try.prog.funcs[F.laws_eqHeldS]? = some Try.f23 := Try.func23
abbrev F.spec_HeldPut : FuncId := 24
theorem C.spec_HeldPut : Try.prog.funcs[F.spec_HeldPut]? = some Try.f24 := Try.func24
abbrev F.impl_HeldPut : FuncId := 25
theorem C.impl_HeldPut : Try.prog.funcs[F.impl_HeldPut]? = some Try.f25 := Try.func25
abbrev F.laws_markHeldS : FuncId := 26
theorem C.laws_markHeldS : Try.prog.funcs[F.laws_markHeldS]? = some Try.f26 := Try.func26
abbrev F.laws_heldHeldS : FuncId := 27
theorem C.laws_heldHeldS : Try.prog.funcs[F.laws_heldHeldS]? = some Try.f27 := Try.func27
abbrev F.laws_big : FuncId := 28
theorem C.laws_big : Try.prog.funcs[F.laws_big]? = some Try.f28 := Try.func28
abbrev F.spec_DrawHeldPut : FuncId := 29
theorem C.spec_DrawHeldPut : Try.prog.funcs[F.spec_DrawHeldPut]? = some Try.f29 := Try.func29
abbrev F.spec_HeldText : FuncId := 30
theorem C.spec_HeldText : Try.prog.funcs[F.spec_HeldText]? = some Try.f30 := Try.func30
abbrev F.impl_HeldText : FuncId := 31
theorem C.impl_HeldText : Try.prog.funcs[F.impl_HeldText]? = some Try.f31 := Try.func31
abbrev F.spec_HeldNew : FuncId := 32
theorem C.spec_HeldNew : Try.prog.funcs[F.spec_HeldNew]? = some Try.f32 := Try.func32
abbrev F.impl_HeldNew : FuncId := 33
theorem C.impl_HeldNew : Try.prog.funcs[F.impl_HeldNew]? = some Try.f33 := Try.func33
abbrev F.spec_l1In : FuncId := 34
theorem C.spec_l1In : Try.prog.funcs[F.spec_l1In]? = some Try.f34 := Try.func34
abbrev F.spec_PutNum : FuncId := 35
theorem C.spec_PutNum : Try.prog.funcs[F.spec_PutNum]? = some Try.f35 := Try.func35
abbrev F.spec_PutText : FuncId := 36
theorem C.spec_PutText : Try.prog.funcs[F.spec_PutText]? = some Try.f36 := Try.func36
abbrev F.impl_isRelease : FuncId := 37
theorem C.impl_isRelease : Try.prog.funcs[F.impl_isRelease]? = some Try.f37 := Try.func37
abbrev F.impl_isSize : FuncId := 38
theorem C.impl_isSize : Try.prog.funcs[F.impl_isSize]? = some Try.f38 := Try.func38
abbrev F.impl_within : FuncId := 39
theorem C.impl_within : Try.prog.funcs[F.impl_within]? = some Try.f39 := Try.func39
abbrev F.impl_putNums : FuncId := 40
theorem C.impl_putNums : Try.prog.funcs[F.impl_putNums]? = some Try.f40 := Try.func40
abbrev F.impl_PutText : FuncId := 41
theorem C.impl_PutText : Try.prog.funcs[F.impl_PutText]? = some Try.f41 := Try.func41
abbrev F.impl_ofMail : FuncId := 42
theorem C.impl_ofMail : Try.prog.funcs[F.impl_ofMail]? = some Try.f42 := Try.func42
abbrev F.impl_isNode : FuncId := 43
theorem C.impl_isNode : Try.prog.funcs[F.impl_isNode]? = some Try.f43 := Try.func43
abbrev F.spec_ParcelNew : FuncId := 44
theorem C.spec_ParcelNew : Try.prog.funcs[F.spec_ParcelNew]? = some Try.f44 := Try.func44
abbrev F.impl_ParcelNew : FuncId := 45
theorem C.impl_ParcelNew : Try.prog.funcs[F.impl_ParcelNew]? = some Try.f45 := Try.func45
abbrev F.laws_szHeld : FuncId := 46
theorem C.laws_szHeld : Try.prog.funcs[F.laws_szHeld]? = some Try.f46 := Try.func46
abbrev F.spec_ParcelOk : FuncId := 47
theorem C.spec_ParcelOk : Try.prog.funcs[F.spec_ParcelOk]? = some Try.f47 := Try.func47
abbrev F.laws_toHeld : FuncId := 48
theorem C.laws_toHeld : Try.prog.funcs[F.laws_toHeld]? = some Try.f48 := Try.func48
abbrev F.impl_ParcelOk : FuncId := 49
theorem C.impl_ParcelOk : Try.prog.funcs[F.impl_ParcelOk]? = some Try.f49 := Try.func49
abbrev F.laws_eqHeld : FuncId := 50
theorem C.laws_eqHeld : Try.prog.funcs[F.laws_eqHeld]? = some Try.f50 := Try.func50
abbrev F.spec_l14Copy : FuncId := 51
theorem C.spec_l14Copy : Try.prog.funcs[F.spec_l14Copy]? = some Try.f51 := Try.func51
abbrev F.spec_l14Find : FuncId := 52
theorem C.spec_l14Find : Try.prog.funcs[F.spec_l14Find]? = some Try.f52 := Try.func52
abbrev F.spec_ParcelPut : FuncId := 53
theorem C.spec_ParcelPut : Try.prog.funcs[F.spec_ParcelPut]? = some Try.f53 := Try.func53
abbrev F.impl_copyHelds : FuncId := 54
theorem C.impl_copyHelds : Try.prog.funcs[F.impl_copyHelds]? = some Try.f54 := Try.func54
abbrev F.impl_heldAt : FuncId := 55
theorem C.impl_heldAt : Try.prog.funcs[F.impl_heldAt]? = some Try.f55 := Try.func55
abbrev F.impl_ParcelPut : FuncId := 56
theorem C.impl_ParcelPut : Try.prog.funcs[F.impl_ParcelPut]? = some Try.f56 := Try.func56
abbrev F.laws_markText : FuncId := 57
theorem C.laws_markText : Try.prog.funcs[F.laws_markText]? = some Try.f57 := Try.func57
abbrev F.laws_markStringS : FuncId := 58
theorem C.laws_markStringS : Try.prog.funcs[F.laws_markStringS]? = some Try.f58 := Try.func58
abbrev F.laws_heldStringS : FuncId := 59
theorem C.laws_heldStringS : Try.prog.funcs[F.laws_heldStringS]? = some Try.f59 := Try.func59
abbrev F.spec_l1New : FuncId := 60
theorem C.spec_l1New : Try.prog.funcs[F.spec_l1New]? = some Try.f60 := Try.func60
abbrev F.spec_l14DrawHelds : FuncId := 61
theorem C.spec_l14DrawHelds : Try.prog.funcs[F.spec_l14DrawHelds]? = some Try.f61 := Try.func61
abbrev F.spec_l14DrawRelease : FuncId := 62
theorem C.spec_l14DrawRelease : Try.prog.funcs[F.spec_l14DrawRelease]? = some Try.f62 := Try.func62
abbrev F.spec_l1Once : FuncId := 63
theorem C.spec_l1Once : Try.prog.funcs[F.spec_l1Once]? = some Try.f63 := Try.func63
abbrev F.spec_l1Below : FuncId := 64
theorem C.spec_l1Below : Try.prog.funcs[F.spec_l1Below]? = some Try.f64 := Try.func64
abbrev F.spec_l1Max : FuncId := 65
theorem C.spec_l1Max : Try.prog.funcs[F.spec_l1Max]? = some Try.f65 := Try.func65
abbrev F.spec_l1Min : FuncId := 66
theorem C.spec_l1Min : Try.prog.funcs[F.spec_l1Min]? = some Try.f66 := Try.func66
abbrev F.spec_l3DrawText : FuncId := 67
theorem C.spec_l3DrawText : Try.prog.funcs[F.spec_l3DrawText]? = some Try.f67 := Try.func67
abbrev F.spec_ParcelWhole : FuncId := 68
theorem C.spec_ParcelWhole : Try.prog.funcs[F.spec_ParcelWhole]? = some Try.f68 := Try.func68
abbrev F.impl_ParcelWhole : FuncId := 69
theorem C.impl_ParcelWhole : Try.prog.funcs[F.impl_ParcelWhole]? = some Try.f69 := Try.func69
abbrev F.spec_l9Copy : FuncId := 70
theorem C.spec_l9Copy : Try.prog.funcs[F.spec_l9Copy]? = some Try.f70 := Try.func70
abbrev F.slices_DeleteFunc_Held : FuncId := 71
theorem C.slices_DeleteFunc_Held : Try.prog.funcs[F.slices_DeleteFunc_Held]? = some Try.f71 := Try.func71
abbrev F.impl_HeldNew_1 : FuncId := 72
theorem C.impl_HeldNew_1 : Try.prog.funcs[F.impl_HeldNew_1]? = some Try.f72 := Try.func72
abbrev F.slices_Insert_Held : FuncId := 73
theorem C.slices_Insert_Held : Try.prog.funcs[F.slices_Insert_Held]? = some Try.f73 := Try.func73
abbrev F.impl_PutNum : FuncId := 74
theorem C.impl_PutNum : Try.prog.funcs[F.impl_PutNum]? = some Try.f74 := Try.func74
abbrev F.spec_PartsOf : FuncId := 75
theorem C.spec_PartsOf : Try.prog.funcs[F.spec_PartsOf]? = some Try.f75 := Try.func75
abbrev F.impl_PartsOf : FuncId := 76
theorem C.impl_PartsOf : Try.prog.funcs[F.impl_PartsOf]? = some Try.f76 := Try.func76
abbrev F.laws_szParcel : FuncId := 77
theorem C.laws_szParcel : Try.prog.funcs[F.laws_szParcel]? = some Try.f77 := Try.func77
abbrev F.spec_l9Long : FuncId := 78
theorem C.spec_l9Long : Try.prog.funcs[F.spec_l9Long]? = some Try.f78 := Try.func78
abbrev F.laws_toParcel : FuncId := 79
theorem C.laws_toParcel : Try.prog.funcs[F.laws_toParcel]? = some Try.f79 := Try.func79
abbrev F.impl_partLong : FuncId := 80
theorem C.impl_partLong : Try.prog.funcs[F.impl_partLong]? = some Try.f80 := Try.func80
abbrev F.laws_eqParcel : FuncId := 81
theorem C.laws_eqParcel : Try.prog.funcs[F.laws_eqParcel]? = some Try.f81 := Try.func81
abbrev F.impl_copyParcel : FuncId := 82
theorem C.impl_copyParcel : Try.prog.funcs[F.impl_copyParcel]? = some Try.f82 := Try.func82
abbrev F.slices_IndexFunc_Held : FuncId := 83
theorem C.slices_IndexFunc_Held : Try.prog.funcs[F.slices_IndexFunc_Held]? = some Try.f83 := Try.func83
abbrev F.impl_heldAt_1 : FuncId := 84
theorem C.impl_heldAt_1 : Try.prog.funcs[F.impl_heldAt_1]? = some Try.f84 := Try.func84
abbrev F.spec_l14DrawRight : FuncId := 85
theorem C.spec_l14DrawRight : Try.prog.funcs[F.spec_l14DrawRight]? = some Try.f85 := Try.func85
abbrev F.spec_l1PickInt : FuncId := 86
theorem C.spec_l1PickInt : Try.prog.funcs[F.spec_l1PickInt]? = some Try.f86 := Try.func86
abbrev F.spec_l1Byte : FuncId := 87
theorem C.spec_l1Byte : Try.prog.funcs[F.spec_l1Byte]? = some Try.f87 := Try.func87
abbrev F.spec_l1DrawBytes : FuncId := 88
theorem C.spec_l1DrawBytes : Try.prog.funcs[F.spec_l1DrawBytes]? = some Try.f88 := Try.func88
abbrev F.spec_Sha : FuncId := 89
theorem C.spec_Sha : Try.prog.funcs[F.spec_Sha]? = some Try.f89 := Try.func89
abbrev F.strings_Join : FuncId := 90
theorem C.strings_Join : Try.prog.funcs[F.strings_Join]? = some Try.f90 := Try.func90
abbrev F.impl_ParcelLacks : FuncId := 91
theorem C.impl_ParcelLacks : Try.prog.funcs[F.impl_ParcelLacks]? = some Try.f91 := Try.func91
abbrev F.impl_Sha : FuncId := 92
theorem C.impl_Sha : Try.prog.funcs[F.impl_Sha]? = some Try.f92 := Try.func92
abbrev F.slices_overlaps_Held : FuncId := 93
theorem C.slices_overlaps_Held : Try.prog.funcs[F.slices_overlaps_Held]? = some Try.f93 := Try.func93
abbrev F.slices_rotateRight_Held : FuncId := 94
theorem C.slices_rotateRight_Held : Try.prog.funcs[F.slices_rotateRight_Held]? = some Try.f94 := Try.func94
abbrev F.laws_szStringS : FuncId := 95
theorem C.laws_szStringS : Try.prog.funcs[F.laws_szStringS]? = some Try.f95 := Try.func95
abbrev F.laws_toStringS : FuncId := 96
theorem C.laws_toStringS : Try.prog.funcs[F.laws_toStringS]? = some Try.f96 := Try.func96
abbrev F.laws_eqStringS : FuncId := 97
theorem C.laws_eqStringS : Try.prog.funcs[F.laws_eqStringS]? = some Try.f97 := Try.func97
abbrev F.impl_copyTexts : FuncId := 98
theorem C.impl_copyTexts : Try.prog.funcs[F.impl_copyTexts]? = some Try.f98 := Try.func98
abbrev F.spec_l14DrawText : FuncId := 99
theorem C.spec_l14DrawText : Try.prog.funcs[F.spec_l14DrawText]? = some Try.f99 := Try.func99
abbrev F.spec_PartOf : FuncId := 100
theorem C.spec_PartOf : Try.prog.funcs[F.spec_PartOf]? = some Try.f100 := Try.func100
abbrev F.spec_l2Block : FuncId := 101
theorem C.spec_l2Block : Try.prog.funcs[F.spec_l2Block]? = some Try.f101 := Try.func101
abbrev F.strings_Builder_Grow : FuncId := 102
theorem C.strings_Builder_Grow : Try.prog.funcs[F.strings_Builder_Grow]? = some Try.f102 := Try.func102
abbrev F.strings_Builder_WriteString : FuncId := 103
theorem C.strings_Builder_WriteString : Try.prog.funcs[F.strings_Builder_WriteString]? = some Try.f103 := Try.func103
abbrev F.strings_Builder_String : FuncId := 104
theorem C.strings_Builder_String : Try.prog.funcs[F.strings_Builder_String]? = some Try.f104 := Try.func104
abbrev F.impl_firstWords : FuncId := 105
theorem C.impl_firstWords : Try.prog.funcs[F.impl_firstWords]? = some Try.f105 := Try.func105
abbrev F.impl_round : FuncId := 106
theorem C.impl_round : Try.prog.funcs[F.impl_round]? = some Try.f106 := Try.func106
abbrev F.slices_rotateLeft_Held : FuncId := 107
theorem C.slices_rotateLeft_Held : Try.prog.funcs[F.slices_rotateLeft_Held]? = some Try.f107 := Try.func107
abbrev F.spec_l1Pick : FuncId := 108
theorem C.spec_l1Pick : Try.prog.funcs[F.spec_l1Pick]? = some Try.f108 := Try.func108
abbrev F.spec_l2Turn : FuncId := 109
theorem C.spec_l2Turn : Try.prog.funcs[F.spec_l2Turn]? = some Try.f109 := Try.func109
abbrev F.spec_l2Low : FuncId := 110
theorem C.spec_l2Low : Try.prog.funcs[F.spec_l2Low]? = some Try.f110 := Try.func110
abbrev F.spec_l2Keys : FuncId := 111
theorem C.spec_l2Keys : Try.prog.funcs[F.spec_l2Keys]? = some Try.f111 := Try.func111
abbrev F.strings_Builder_copyCheck : FuncId := 112
theorem C.strings_Builder_copyCheck : Try.prog.funcs[F.strings_Builder_copyCheck]? = some Try.f112 := Try.func112
abbrev F.strings_Builder_grow : FuncId := 113
theorem C.strings_Builder_grow : Try.prog.funcs[F.strings_Builder_grow]? = some Try.f113 := Try.func113
abbrev F.impl_constants : FuncId := 114
theorem C.impl_constants : Try.prog.funcs[F.impl_constants]? = some Try.f114 := Try.func114
abbrev F.impl_expanded : FuncId := 115
theorem C.impl_expanded : Try.prog.funcs[F.impl_expanded]? = some Try.f115 := Try.func115
abbrev F.impl_turnRight : FuncId := 116
theorem C.impl_turnRight : Try.prog.funcs[F.impl_turnRight]? = some Try.f116 := Try.func116
abbrev F.slices_Reverse_Held : FuncId := 117
theorem C.slices_Reverse_Held : Try.prog.funcs[F.slices_Reverse_Held]? = some Try.f117 := Try.func117
abbrev F.internal_abi_NoEscape : FuncId := 118
theorem C.internal_abi_NoEscape : Try.prog.funcs[F.internal_abi_NoEscape]? = some Try.f118 := Try.func118
abbrev F.internal_bytealg_MakeNoZero : FuncId := 119
theorem C.internal_bytealg_MakeNoZero : Try.prog.funcs[F.internal_bytealg_MakeNoZero]? = some Try.f119 := Try.func119
abbrev F.internal_abi_Type_Align : FuncId := 132
theorem C.internal_abi_Type_Align : Try.prog.funcs[F.internal_abi_Type_Align]? = some Try.f132 := Try.func132
abbrev F.internal_runtime_maps_unhashableTypeError_Error : FuncId := 133
theorem C.internal_runtime_maps_unhashableTypeError_Error : Try.prog.funcs[F.internal_runtime_maps_unhashableTypeError_Error]? = some Try.f133 := Try.func133
abbrev F.internal_runtime_maps_unhashableTypeError_RuntimeError : FuncId := 134
theorem C.internal_runtime_maps_unhashableTypeError_RuntimeError : Try.prog.funcs[F.internal_runtime_maps_unhashableTypeError_RuntimeError]? = some Try.f134 := Try.func134
abbrev F.strings_Builder_Reset : FuncId := 135
theorem C.strings_Builder_Reset : Try.prog.funcs[F.strings_Builder_Reset]? = some Try.f135 := Try.func135
abbrev F.internal_abi_Kind_String : FuncId := 136
theorem C.internal_abi_Kind_String : Try.prog.funcs[F.internal_abi_Kind_String]? = some Try.f136 := Try.func136
abbrev Y.error : TypeId := 114
abbrev Y.errorI : TypeId := 113
abbrev Y.int64 : TypeId := 2
abbrev Y.int : TypeId := 3
abbrev Y.bool : TypeId := 4
abbrev Y.uint8 : TypeId := 5
abbrev Y.abi_BoundsErrorCode : TypeId := 6
abbrev Y.runtime_boundsError : TypeId := 8
abbrev Y.string : TypeId := 9
abbrev Y.runtime_errorString : TypeId := 10
abbrev Y.runtime_plainError : TypeId := 11
abbrev Y.uintptr : TypeId := 12
abbrev Y.runtime_errorAddressString : TypeId := 14
abbrev Y.int32 : TypeId := 21
abbrev Y.laws_Deed : TypeId := 25
abbrev Y.impl_Deed : TypeId := 28
abbrev Y.sl_laws_Held : TypeId := 31
abbrev Y.sl_impl_Held : TypeId := 34
abbrev Y.sl_uint8 : TypeId := 42
abbrev Y.sl_string : TypeId := 46
abbrev Y.impl_Parcel : TypeId := 48
abbrev Y.impl_Held : TypeId := 50
abbrev Y.laws_Parcel : TypeId := 64
abbrev Y.laws_Held : TypeId := 66
abbrev Y.sl_int : TypeId := 89
abbrev Y.spec_l1Cur : TypeId := 96
abbrev Y.uint : TypeId := 103
abbrev Y.ar8_int : TypeId := 118
abbrev Y.ar64_int : TypeId := 124
abbrev Y.uint32 : TypeId := 136
abbrev Y.abi_TFlag : TypeId := 137
abbrev Y.abi_Kind : TypeId := 138
abbrev Y.abi_NameOff : TypeId := 140
abbrev Y.abi_TypeOff : TypeId := 141

end Go.TL
