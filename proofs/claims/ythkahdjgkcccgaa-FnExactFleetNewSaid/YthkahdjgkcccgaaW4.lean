/- New fleets: held, likeness. No conditions but those that are written. -/
import Derived.Test.YthkahdjgkcccgaaW3
namespace Go.TL
set_option linter.unusedSimpArgs false
open Go.Proofs Go.RowKit
attribute [local irreducible] wpOpsT wpT EndT Ex.seq Ex.block W

theorem lendFleet {of : Int} {l : List EmV} {n : Nat} (hn : n = l.length) {f : FuncId} {x y : Value} (h : CallsT Try.prog [] f [.agg [.v (.int .i64 of), .sl false 1 l.length 19 (rowT emC l), .sl false 1 0 2 []], .v y] (.v x) []) : CallsT Try.prog [⟨19, true, rowT emC l⟩] f [.agg [.v (.int .i64 of), .ref 0 [] 0 n, .v (.slice none 0 0)], .v y] (.v x) [⟨19, true, rowT emC l⟩] := by
  subst hn
  exact call_frame (rt := true) (ts1 := [.agg [.v (.int .i64 of), .ref 0 [] 0 l.length, .sl false 0 0 2 []], .v y]) h (.cons (.aggs (.cons (.refl _) (.cons (.refl _) (.cons (.nil _ _) .nil)))) (.cons (.refl _) .nil)) (by simp (disch := omega) only [go_sem, ↓reduceIte, Nat.reduceEqDiff, Nat.reduceMul, Nat.reduceAdd, Nat.reduceSub, Nat.reduceLT, Nat.reduceGT, Nat.reduceLeDiff, Nat.reduceBEq, Int.reduceLT, Int.reduceLE, Int.reduceNe, Int.reduceEq, Int.reduceToNat, Int.reduceAdd, Int.reduceSub, Int.reduceMul, Int.reduceNeg, Nat.reducePow, Int.reducePow, Nat.reduceSubDiff, decide_true, decide_false, reduceCtorEq, or_self, or_false, false_or, or_true, true_or, if_false, gt_iff_lt, ge_iff_le, ne_eq, not_true_eq_false, not_false_eq_true, and_self, beq_self_eq_true, Bool.false_eq_true]) (by first | simp (disch := omega) only [go_sem, ↓reduceIte, Nat.reduceEqDiff, Nat.reduceMul, Nat.reduceAdd, Nat.reduceSub, Nat.reduceLT, Nat.reduceGT, Nat.reduceLeDiff, Nat.reduceBEq, Int.reduceLT, Int.reduceLE, Int.reduceNe, Int.reduceEq, Int.reduceToNat, Int.reduceAdd, Int.reduceSub, Int.reduceMul, Int.reduceNeg, Nat.reducePow, Int.reducePow, Nat.reduceSubDiff, decide_true, decide_false, reduceCtorEq, or_self, or_false, false_or, or_true, true_or, if_false, gt_iff_lt, ge_iff_le, ne_eq, not_true_eq_false, not_false_eq_true, and_self, beq_self_eq_true, Bool.false_eq_true] | rfl) (by first | simp (disch := omega) only [go_sem, ↓reduceIte, Nat.reduceEqDiff, Nat.reduceMul, Nat.reduceAdd, Nat.reduceSub, Nat.reduceLT, Nat.reduceGT, Nat.reduceLeDiff, Nat.reduceBEq, Int.reduceLT, Int.reduceLE, Int.reduceNe, Int.reduceEq, Int.reduceToNat, Int.reduceAdd, Int.reduceSub, Int.reduceMul, Int.reduceNeg, Nat.reducePow, Int.reducePow, Nat.reduceSubDiff, decide_true, decide_false, reduceCtorEq, or_self, or_false, false_or, or_true, true_or, if_false, gt_iff_lt, ge_iff_le, ne_eq, not_true_eq_false, not_false_eq_true, and_self, beq_self_eq_true, Bool.false_eq_true] | rfl) (by first | simp (disch := omega) only [go_sem, ↓reduceIte, Nat.reduceEqDiff, Nat.reduceMul, Nat.reduceAdd, Nat.reduceSub, Nat.reduceLT, Nat.reduceGT, Nat.reduceLeDiff, Nat.reduceBEq, Int.reduceLT, Int.reduceLE, Int.reduceNe, Int.reduceEq, Int.reduceToNat, Int.reduceAdd, Int.reduceSub, Int.reduceMul, Int.reduceNeg, Nat.reducePow, Int.reducePow, Nat.reduceSubDiff, decide_true, decide_false, reduceCtorEq, or_self, or_false, false_or, or_true, true_or, if_false, gt_iff_lt, ge_iff_le, ne_eq, not_true_eq_false, not_false_eq_true, and_self, beq_self_eq_true, Bool.false_eq_true] | rfl) (by first | simp (disch := omega) only [go_sem, ↓reduceIte, Nat.reduceEqDiff, Nat.reduceMul, Nat.reduceAdd, Nat.reduceSub, Nat.reduceLT, Nat.reduceGT, Nat.reduceLeDiff, Nat.reduceBEq, Int.reduceLT, Int.reduceLE, Int.reduceNe, Int.reduceEq, Int.reduceToNat, Int.reduceAdd, Int.reduceSub, Int.reduceMul, Int.reduceNeg, Nat.reducePow, Int.reducePow, Nat.reduceSubDiff, decide_true, decide_false, reduceCtorEq, or_self, or_false, false_or, or_true, true_or, if_false, gt_iff_lt, ge_iff_le, ne_eq, not_true_eq_false, not_false_eq_true, and_self, beq_self_eq_true, Bool.false_eq_true] | rfl)

theorem heldFleetF (of : Int) (n : Nat) (k : Int) (hk : 0 < k) (hk2 : k + 11 * n ≤ 100000000) : CallsT Try.prog [] F.laws_heldFleet [.agg [.v (.int .i64 of), .sl false 1 (marksE k n).length 19 (rowT emC (marksE k n)), .sl false 1 0 2 []], .v (.int .i64 k)] (.v (.int .i64 (k + 11 * n))) [] := by
  refine fnT C.laws_heldFleet ?_
  refine run ?_
  exact r_end [] []
theorem heldFleetR (of : Int) (n : Nat) (k : Int) (hk : 0 < k) (hk2 : k + 11 * n ≤ 100000000) : CallsT Try.prog [⟨19, true, rowT emC (marksE k n)⟩] F.laws_heldFleet [.agg [.v (.int .i64 of), .ref 0 [] 0 n, .v (.slice none 0 0)], .v (.int .i64 k)] (.v (.int .i64 (k + 11 * n))) [⟨19, true, rowT emC (marksE k n)⟩] :=
  lendFleet (marksE_len k n).symm (heldFleetF of n k hk hk2)

theorem eqFleetE (of : Int) (l : List EmV) (hl : l.length ≤ 1000) : CallsT Try.prog [] F.laws_eqFleet [.agg [.v (.int .i64 of), .sl false 1 l.length 19 (rowT emC l), .sl false 1 0 2 []], .agg [.v (.int .i64 of), .sl false 1 l.length 19 (rowT emC l), .sl false 1 0 2 []]] (.v (.bool true)) [] := by
  have h := laws_eqFleet 1 1 1 1 of (l.map emM) [] ⟨⟨by rw [List.length_map]; omega, fun x hx => ?_⟩, ⟨by simp, fun _ h => by cases h⟩⟩
  · rw [em_rows, List.length_map] at h
    exact h
  · obtain ⟨y, _, rfl⟩ := List.mem_map.1 hx
    refine ⟨⟨by simp [emM], fun _ h => by cases h⟩, ⟨⟨by simp [emM], fun _ h => by cases h⟩, by simp [emM, bndIS], by simp [emM, bndIS], by simp [emM, bndIS]⟩, ⟨⟨by simp [emM], fun _ h => by cases h⟩, by simp [emM, bndIS]⟩, ⟨by simp [emM], fun _ h => by cases h⟩⟩

/-! ### No fleet -/
theorem markMemberS_0 (q : Nat) (k : Int) : CallsT Try.prog [] F.laws_markMemberS [.sl false q 0 19 [], .v (.int .i64 k)] (.v (.int .i64 k)) [] := by
  refine fnT C.laws_markMemberS ?_
  refine run ?_
  refine r_for 0 (fun i => [(0, .sl false q 0 19 []), (1, .v (.int .i64 k)), (5, .v (.int .i64 i))]) (fun _ => []) (fun _ => True) [] [] trivial Gc.of (fun i hi _ => absurd hi (Nat.not_lt_zero _)) (fun _ => ?_)
  refine run ?_
  exact r_end [] []
theorem heldMemberS_0 (q : Nat) (k : Int) : CallsT Try.prog [] F.laws_heldMemberS [.sl false q 0 19 [], .v (.int .i64 k)] (.v (.int .i64 k)) [] := by
  refine fnT C.laws_heldMemberS ?_
  refine run ?_
  refine r_for 0 (fun i => [(0, .sl false q 0 19 []), (1, .v (.int .i64 k)), (5, .v (.int .i64 i))]) (fun _ => []) (fun _ => True) [] [] trivial Gc.of (fun i hi _ => absurd hi (Nat.not_lt_zero _)) (fun _ => ?_)
  refine run ?_
  exact r_end [] []
theorem markFleet_0 : CallsT Try.prog [] F.laws_markFleet [.agg [.v (.int .i64 0), .sl false 1 0 19 [], .sl false 1 0 2 []], .v (.int .i64 1)] (.v (.int .i64 1)) [] := by
  refine fnT C.laws_markFleet ?_
  refine runC ?_
  refine r_callp true (markMemberS_0 1 1) ?_
  refine run ?_
  exact r_end [] []
theorem heldFleet_0 : CallsT Try.prog [] F.laws_heldFleet [.agg [.v (.int .i64 0), .sl false 1 0 19 [], .sl false 1 0 2 []], .v (.int .i64 1)] (.v (.int .i64 1)) [] := by
  refine fnT C.laws_heldFleet ?_
  refine runC ?_
  refine r_callp true (heldMemberS_0 1 1) ?_
  refine run ?_
  exact r_end [] []

end Go.TL
