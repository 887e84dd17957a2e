/- Loads from rows of one's own; ends that answer texts and numbers. No conditions. -/
import Derived.Test.YtkecbkljfpebhaaTLda
namespace Go.TL
set_option linter.unusedSimpArgs false
open Go.RowKit

@[go_sem] theorem un_not_t (P : Program) : unT P .not (.v (.bool true)) = some (.v (.bool false)) := rfl
@[go_sem] theorem un_not_f (P : Program) : unT P .not (.v (.bool false)) = some (.v (.bool true)) := rfl

attribute [go_sem] Int.sub_zero Bool.not_true Bool.not_false
theorem nth_toNat {α : Type} [Inhabited α] {l : List α} (x : Int) : nth l ((x.toNat : Nat) : Int) = nth l x := by unfold nth; rw [Int.toNat_natCast]
/-- A cell of a row. -/
theorem row_cell {α : Type} [Inhabited α] {enc : α → List T} {sz : Nat} [h : RowE enc sz] {l : List α} {x : Int} (j : Nat) (hx : x.toNat < l.length) (hj : j < sz) : (rowT enc l)[x.toNat * sz + j]? = (enc (nth l x))[j]? := by
  have e := row_get (enc := enc) l x.toNat hx
  have e2 : (((rowT enc l).drop (x.toNat * sz)).take sz)[j]? = (rowT enc l)[x.toNat * sz + j]? := by
    rw [List.getElem?_take_of_lt hj, List.getElem?_drop]
  rw [← e2, e]; rfl
@[go_sem] theorem get_own {l : List Int} {x : Int} (h : x.toNat < l.length) : (rowT i64C l)[x.toNat]? = some (.v (.int .i64 (nth l x))) := by
  have := row_cell (enc := i64C) (l := l) 0 h (by decide)
  rw [Nat.mul_one, Nat.add_zero] at this
  exact this
@[go_sem] theorem get_ownS {l : List ByteArray} {x : Int} (h : x.toNat < l.length) : (rowT strC l)[x.toNat]? = some (.v (.string (nth l x))) := by
  have := row_cell (enc := strC) (l := l) 0 h (by decide)
  rw [Nat.mul_one, Nat.add_zero] at this
  exact this
@[go_sem] theorem get_ownU {l : List Int} {x : Int} (h : x.toNat < l.length) : (rowT u8C l)[x.toNat]? = some (.v (.int .u8 (nth l x))) := by
  have := row_cell (enc := u8C) (l := l) 0 h (by decide)
  rw [Nat.mul_one, Nat.add_zero] at this
  exact this
attribute [go_sem] Nat.mul_one
@[go_sem] theorem take_row1 {α : Type} {enc : α → List T} [h : RowE enc 1] (l : List α) : List.take l.length (rowT enc l) = rowT enc l := List.take_of_length_le (by rw [rowT_len h.e.len]; omega)

section
variable {P : Program} {M : Nat} {fr : Nat → T} {S : Store}
/-- The end of a body that answers one plain value. -/
theorem r_endv {fn : Func} {rs : List ResultVar} {x y : Value} (h : x = y) (hrs : fn.results.toList = rs := by (conv => lhs; whnf)) (hr : resTs P S fr rs = some [.v x] := by (first | (simp only [go_sem, ↓reduceIte, Nat.reduceEqDiff, Nat.reduceMul, Nat.reduceAdd, Nat.reduceSub, Nat.reduceLT, Nat.reduceGT, Nat.reduceLeDiff, Nat.reduceBEq, Int.reduceLT, Int.reduceLE, Int.reduceNe, Int.reduceEq, Int.reduceToNat, Int.reduceAdd, Int.reduceSub, Int.reduceMul, Int.reduceNeg, Nat.reducePow, Int.reducePow, Nat.reduceSubDiff, decide_true, decide_false, reduceCtorEq, or_self, or_false, false_or, or_true, true_or, if_false, gt_iff_lt, ge_iff_le, ne_eq, not_true_eq_false, not_false_eq_true, and_self, beq_self_eq_true, Bool.false_eq_true] <;> with_reducible rfl) | with_reducible rfl)) (hM : M = 0 := by rfl) : EndT P M fn (.v y) [] .ret fr S := by
  subst hM
  subst h
  exact EndT.of trivial ⟨_, [], [], by rw [hrs]; exact hr, ⟨List.nodup_nil, fun r h => by simp at h, fun i hi => absurd hi (Nat.not_lt_zero _), .nil, fun _ => .dead _⟩, by
    simp only [fzAllT, packT, gcT]
    exact .refl _⟩
theorem r_endS {fn : Func} {rs : List ResultVar} {x y : ByteArray} (h : x = y) (hrs : fn.results.toList = rs := by (conv => lhs; whnf)) (hr : resTs P S fr rs = some [.v (.string x)] := by (first | (simp only [go_sem, ↓reduceIte, Nat.reduceEqDiff, Nat.reduceMul, Nat.reduceAdd, Nat.reduceSub, Nat.reduceLT, Nat.reduceGT, Nat.reduceLeDiff, Nat.reduceBEq, Int.reduceLT, Int.reduceLE, Int.reduceNe, Int.reduceEq, Int.reduceToNat, Int.reduceAdd, Int.reduceSub, Int.reduceMul, Int.reduceNeg, Nat.reducePow, Int.reducePow, Nat.reduceSubDiff, decide_true, decide_false, reduceCtorEq, or_self, or_false, false_or, or_true, true_or, if_false, gt_iff_lt, ge_iff_le, ne_eq, not_true_eq_false, not_false_eq_true, and_self, beq_self_eq_true, Bool.false_eq_true] <;> with_reducible rfl) | with_reducible rfl)) (hM : M = 0 := by rfl) : EndT P M fn (.v (.string y)) [] .ret fr S :=
  r_endv (congrArg _ h) hrs hr hM
theorem r_endI {fn : Func} {rs : List ResultVar} {x y : Int} {k : IntKind} (h : x = y) (hrs : fn.results.toList = rs := by (conv => lhs; whnf)) (hr : resTs P S fr rs = some [.v (.int k x)] := by (first | (simp only [go_sem, ↓reduceIte, Nat.reduceEqDiff, Nat.reduceMul, Nat.reduceAdd, Nat.reduceSub, Nat.reduceLT, Nat.reduceGT, Nat.reduceLeDiff, Nat.reduceBEq, Int.reduceLT, Int.reduceLE, Int.reduceNe, Int.reduceEq, Int.reduceToNat, Int.reduceAdd, Int.reduceSub, Int.reduceMul, Int.reduceNeg, Nat.reducePow, Int.reducePow, Nat.reduceSubDiff, decide_true, decide_false, reduceCtorEq, or_self, or_false, false_or, or_true, true_or, if_false, gt_iff_lt, ge_iff_le, ne_eq, not_true_eq_false, not_false_eq_true, and_self, beq_self_eq_true, Bool.false_eq_true] <;> with_reducible rfl) | with_reducible rfl)) (hM : M = 0 := by rfl) : EndT P M fn (.v (.int k y)) [] .ret fr S :=
  r_endv (congrArg _ h) hrs hr hM
end
end Go.TL
