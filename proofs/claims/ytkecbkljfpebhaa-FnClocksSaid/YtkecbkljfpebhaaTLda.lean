/- Loads of whole rows of ints. No conditions. -/
import Derived.Test.YtkecbkljfpebhaaTSlc
namespace Go.TL
set_option linter.unusedSimpArgs false
open Go.RowKit
theorem loadN_row {r : Nat} {p : List Nat} (l : List Int) : ∀ (m j : Nat), j + m ≤ l.length → loadN (loadCell r p) (rowT i64C l) j m = some (rowT i64C ((l.drop j).take m))
  | 0, _, _ => by simp [loadN]; rfl
  | m + 1, j, h => by
    have e : (rowT i64C l)[j]? = some (.v (.int .i64 l[j])) := by
      rw [show i64C = fun x => [T.v (.int .i64 x)] from rfl, rowT_map (fun x => T.v (.int .i64 x)), List.getElem?_map, List.getElem?_eq_getElem (by omega)]; rfl
    rw [loadN, e]
    dsimp only [loadCell]
    rw [loadN_row l m (j + 1) (by omega), Option.map_some, List.drop_eq_getElem_cons (by omega : j < l.length), List.take_succ_cons, rowT_cons]
    rfl
@[go_sem ↓] theorem load_all {r : Nat} {p : List Nat} {l : List Int} (h : l.length = 64) : loadN (loadCell r p) (rowT i64C l) 0 64 = some (rowT i64C l) := by
  rw [loadN_row l 64 0 (by omega), List.drop_zero, List.take_of_length_le (by omega)]
theorem setR_all {ts cs : List T} (h : ts.length = cs.length) : setR cs 0 ts = ts := by
  have := setR_0 [] ts [] cs h
  simpa using this
theorem storable_ints (S : Store) : ∀ l : List Int, storable S (rowT i64C l) = true
  | [] => rfl
  | x :: l => by
    have := storable_ints S l
    unfold storable at this ⊢
    rw [rowT_cons, List.all_append, this]; rfl

section
variable {P : Program} {n : Nat} {S S2 : Store} {fr : Nat → T} {ops : Array Oper} {ty : TypeId} {pos : String} {aft : Array Edge} {rest : List Oper} {K : (Nat → T) → Store → Prop} {t : TypeId} {x y : Operand}
/-- A store of a whole array of ints. -/
theorem r_stl {pu pu' : Dr} {gd : Option (Nat × Bool)} {l0 l : List Int} {r m e0 : Nat} (h : wpOpsT P ops n pu' rest K fr S2)
    (hw : wantedT ops fr ⟨none, .store t x y, ty, pos, aft, gd⟩ = some true := by rfl) (hc : calleeT fr ⟨none, .store t x y, ty, pos, aft, gd⟩ = none := by rfl)
    (hx : TL.ev fr x = .ptr r [] 0 := by (first | (simp only [go_sem, ↓reduceIte, Nat.reduceEqDiff, Nat.reduceMul, Nat.reduceAdd, Nat.reduceSub, Nat.reduceLT, Nat.reduceGT, Nat.reduceLeDiff, Nat.reduceBEq, Int.reduceLT, Int.reduceLE, Int.reduceNe, Int.reduceEq, Int.reduceToNat, Int.reduceAdd, Int.reduceSub, Int.reduceMul, Int.reduceNeg, Nat.reducePow, Int.reducePow, Nat.reduceSubDiff, decide_true, decide_false, reduceCtorEq, or_self, or_false, false_or, or_true, true_or, if_false, gt_iff_lt, ge_iff_le, ne_eq, not_true_eq_false, not_false_eq_true, and_self, beq_self_eq_true, Bool.false_eq_true] <;> with_reducible rfl) | with_reducible rfl)) (hat : S.at false r [] = some (e0, rowT i64C l0) := by (first | (simp only [go_sem, ↓reduceIte, Nat.reduceEqDiff, Nat.reduceMul, Nat.reduceAdd, Nat.reduceSub, Nat.reduceLT, Nat.reduceGT, Nat.reduceLeDiff, Nat.reduceBEq, Int.reduceLT, Int.reduceLE, Int.reduceNe, Int.reduceEq, Int.reduceToNat, Int.reduceAdd, Int.reduceSub, Int.reduceMul, Int.reduceNeg, Nat.reducePow, Int.reducePow, Nat.reduceSubDiff, decide_true, decide_false, reduceCtorEq, or_self, or_false, false_or, or_true, true_or, if_false, gt_iff_lt, ge_iff_le, ne_eq, not_true_eq_false, not_false_eq_true, and_self, beq_self_eq_true, Bool.false_eq_true] <;> with_reducible rfl) | with_reducible rfl))
    (hy : TL.ev fr y = .agg (rowT i64C l) := by (first | (simp only [go_sem, ↓reduceIte, Nat.reduceEqDiff, Nat.reduceMul, Nat.reduceAdd, Nat.reduceSub, Nat.reduceLT, Nat.reduceGT, Nat.reduceLeDiff, Nat.reduceBEq, Int.reduceLT, Int.reduceLE, Int.reduceNe, Int.reduceEq, Int.reduceToNat, Int.reduceAdd, Int.reduceSub, Int.reduceMul, Int.reduceNeg, Nat.reducePow, Int.reducePow, Nat.reduceSubDiff, decide_true, decide_false, reduceCtorEq, or_self, or_false, false_or, or_true, true_or, if_false, gt_iff_lt, ge_iff_le, ne_eq, not_true_eq_false, not_false_eq_true, and_self, beq_self_eq_true, Bool.false_eq_true] <;> with_reducible rfl) | with_reducible rfl)) (hz : szT P t = some m := by (first | (simp only [go_sem, ↓reduceIte, Nat.reduceEqDiff, Nat.reduceMul, Nat.reduceAdd, Nat.reduceSub, Nat.reduceLT, Nat.reduceGT, Nat.reduceLeDiff, Nat.reduceBEq, Int.reduceLT, Int.reduceLE, Int.reduceNe, Int.reduceEq, Int.reduceToNat, Int.reduceAdd, Int.reduceSub, Int.reduceMul, Int.reduceNeg, Nat.reducePow, Int.reducePow, Nat.reduceSubDiff, decide_true, decide_false, reduceCtorEq, or_self, or_false, false_or, or_true, true_or, if_false, gt_iff_lt, ge_iff_le, ne_eq, not_true_eq_false, not_false_eq_true, and_self, beq_self_eq_true, Bool.false_eq_true] <;> with_reducible rfl) | with_reducible rfl)) (hl : l.length = m := by first | rfl | omega) (h0 : l0.length = m := by first | rfl | omega)
    (hS : S.upd r [] (fun _ => rowT i64C l) = S2 := by (first | (simp only [go_sem, ↓reduceIte, Nat.reduceEqDiff, Nat.reduceMul, Nat.reduceAdd, Nat.reduceSub, Nat.reduceLT, Nat.reduceGT, Nat.reduceLeDiff, Nat.reduceBEq, Int.reduceLT, Int.reduceLE, Int.reduceNe, Int.reduceEq, Int.reduceToNat, Int.reduceAdd, Int.reduceSub, Int.reduceMul, Int.reduceNeg, Nat.reducePow, Int.reducePow, Nat.reduceSubDiff, decide_true, decide_false, reduceCtorEq, or_self, or_false, false_or, or_true, true_or, if_false, gt_iff_lt, ge_iff_le, ne_eq, not_true_eq_false, not_false_eq_true, and_self, beq_self_eq_true, Bool.false_eq_true] <;> with_reducible rfl) | with_reducible rfl))
    (hp : Dr.step P ops n pu fr S ⟨none, .store t x y, ty, pos, aft, gd⟩ .dead S2 pu' := by first | exact Dr.step.txt | exact dr_chain) :
    wpOpsT P ops n pu (⟨none, .store t x y, ty, pos, aft, gd⟩ :: rest) K fr S := by
  refine r_op (opT_do hw rfl hc (t := .dead) (S' := S2) ?_) hp h
  rw [s_store, hx, hy]
  unfold storeT
  simp only [hat, hz]
  rw [if_pos ⟨by show m = (rowT i64C l).length; rw [len_row]; omega, by rw [len_row]; omega, storable_ints S l⟩, ← hS, Option.map_some]
  congr 2
  unfold Store.at at hat
  unfold Store.upd
  cases hr : S[r]? with
  | none => simp [hr] at hat
  | some z =>
    rw [hr] at hat
    dsimp only at hat ⊢
    split at hat
    · simp only [cellsAt, Option.some.injEq, Prod.mk.injEq] at hat
      congr 2
      simp only [updAt]
      rw [hat.2]
      exact setR_all (ts := rowT i64C l) (by rw [len_row, len_row]; omega)
    · cases hat
end
end Go.TL
