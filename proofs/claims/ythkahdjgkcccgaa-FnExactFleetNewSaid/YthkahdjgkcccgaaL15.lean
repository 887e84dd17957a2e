/- The law of FleetNew on trees. No conditions but those that are written. -/
import Derived.Test.YthkahdjgkcccgaaW4
namespace Go.TL
set_option linter.unusedSimpArgs false
open Go.Proofs Go.RowKit
attribute [local irreducible] wpOpsT wpT EndT Ex.seq Ex.block W

theorem eqFleet_0 : CallsT Try.prog [] F.laws_eqFleet [.agg [.v (.int .i64 0), .sl false 1 0 19 [], .sl false 1 0 2 []], .agg [.v (.int .i64 0), .sl false 1 0 19 [], .sl false 1 0 2 []]] (.v (.bool true)) [] := eqFleetE 0 [] (by simp)

set_option maxHeartbeats 8000000 in
set_option maxHeartbeats 4000000 in
theorem laws_FnExactFleetNew (of : Int) : CallsT Try.prog [] F.laws_FnExactFleetNew [.v (.int .i64 of)] (.v (.bool true)) [] := by
  refine fnT C.laws_FnExactFleetNew ?_
  by_cases ho : ofP of
  · have hsp := spec_FleetNewO of ho
    have him := impl_FleetNewO of ho
    have ho5 : 1 ≤ of ∧ of ≤ 5 := by unfold ofP at ho; omega
    obtain ⟨n, rfl⟩ := Int.eq_ofNat_of_zero_le (show 0 ≤ of by omega)
    rw [Int.toNat_natCast] at hsp him
    have hl := newE_len n n
    have heq := eqFleetE n (newE n n) (by omega)
    have hm := markFleetR n (newE n n) 1 (by omega) (by omega)
    have hh := heldFleetR n n 1 (by omega) (by omega)
    rw [hl] at hm heq
    generalize newE n n = E at *
    have hneg : ¬ (1 + 11 * (n : Int) < 0) := by omega
    refine runC ?_
    refine r_callp true hsp ?_
    refine runC ?_
    refine r_callp true him ?_
    refine runC ?_
    refine r_callp true heq ?_ (ts1 := [.agg [.v (.int .i64 n), .ref 2 [] 0 n, .sl false 0 0 2 []], .agg [.v (.int .i64 n), .ref 0 [] 0 n, .sl false 0 0 2 []]]) (hk := by (simp only [go_sem, ↓reduceIte, Nat.reduceEqDiff, Nat.reduceMul, Nat.reduceAdd, Nat.reduceSub, Nat.reduceLT, Nat.reduceGT, Nat.reduceLeDiff, Nat.reduceBEq, Int.reduceLT, Int.reduceLE, Int.reduceNe, Int.reduceEq, Int.reduceToNat, Int.reduceAdd, Int.reduceSub, Int.reduceMul, Int.reduceNeg, Nat.reducePow, Int.reducePow, Nat.reduceSubDiff, decide_true, decide_false, reduceCtorEq, or_self, or_false, false_or, or_true, true_or, if_false, gt_iff_lt, ge_iff_le, ne_eq, not_true_eq_false, not_false_eq_true, and_self, beq_self_eq_true, Bool.false_eq_true]; try (repeat (first | exact True.intro | exact Wk.refl _ | exact Wk.nil _ _ | exact Wk.dead _ | exact Wk.bT (by assumption) | exact Wk.bF (by assumption) | exact Wk.eqI (by omega) | exact WkS.refl _ | exact Wks.same _ | exact Wks.nil | exact WkS.nil | refine And.intro ?_ ?_ | refine Wk.aggs ?_ | refine Wk.tups ?_ | refine Wks.cons ?_ ?_ | refine WkS.cons (by first | exact fun _ => rfl | exact fun h => absurd h Bool.false_ne_true) ?_ ?_ ?_ | assumption | exact (fun h => h) | exact (fun h => absurd h Bool.false_ne_true) | intro _)))) (ha := by rw [← hl]; simp (disch := omega) only [go_sem, ↓reduceIte, Nat.reduceEqDiff, Nat.reduceMul, Nat.reduceAdd, Nat.reduceSub, Nat.reduceLT, Nat.reduceGT, Nat.reduceLeDiff, Nat.reduceBEq, Int.reduceLT, Int.reduceLE, Int.reduceNe, Int.reduceEq, Int.reduceToNat, Int.reduceAdd, Int.reduceSub, Int.reduceMul, Int.reduceNeg, Nat.reducePow, Int.reducePow, Nat.reduceSubDiff, decide_true, decide_false, reduceCtorEq, or_self, or_false, false_or, or_true, true_or, if_false, gt_iff_lt, ge_iff_le, ne_eq, not_true_eq_false, not_false_eq_true, and_self, beq_self_eq_true, Bool.false_eq_true])
    refine runC ?_
    refine r_calln [2] hm ?_
    refine runC ?_
    refine r_calln [2] hh ?_
    refine runC ?_
    refine r_callp true him ?_
    refine runC ?_
    refine r_callp true heq ?_ (ts1 := [.agg [.v (.int .i64 n), .ref 4 [] 0 n, .sl false 0 0 2 []], .agg [.v (.int .i64 n), .ref 0 [] 0 n, .sl false 0 0 2 []]]) (hk := by (simp only [go_sem, ↓reduceIte, Nat.reduceEqDiff, Nat.reduceMul, Nat.reduceAdd, Nat.reduceSub, Nat.reduceLT, Nat.reduceGT, Nat.reduceLeDiff, Nat.reduceBEq, Int.reduceLT, Int.reduceLE, Int.reduceNe, Int.reduceEq, Int.reduceToNat, Int.reduceAdd, Int.reduceSub, Int.reduceMul, Int.reduceNeg, Nat.reducePow, Int.reducePow, Nat.reduceSubDiff, decide_true, decide_false, reduceCtorEq, or_self, or_false, false_or, or_true, true_or, if_false, gt_iff_lt, ge_iff_le, ne_eq, not_true_eq_false, not_false_eq_true, and_self, beq_self_eq_true, Bool.false_eq_true]; try (repeat (first | exact True.intro | exact Wk.refl _ | exact Wk.nil _ _ | exact Wk.dead _ | exact Wk.bT (by assumption) | exact Wk.bF (by assumption) | exact Wk.eqI (by omega) | exact WkS.refl _ | exact Wks.same _ | exact Wks.nil | exact WkS.nil | refine And.intro ?_ ?_ | refine Wk.aggs ?_ | refine Wk.tups ?_ | refine Wks.cons ?_ ?_ | refine WkS.cons (by first | exact fun _ => rfl | exact fun h => absurd h Bool.false_ne_true) ?_ ?_ ?_ | assumption | exact (fun h => h) | exact (fun h => absurd h Bool.false_ne_true) | intro _)))) (ha := by rw [← hl]; simp (disch := omega) only [go_sem, ↓reduceIte, Nat.reduceEqDiff, Nat.reduceMul, Nat.reduceAdd, Nat.reduceSub, Nat.reduceLT, Nat.reduceGT, Nat.reduceLeDiff, Nat.reduceBEq, Int.reduceLT, Int.reduceLE, Int.reduceNe, Int.reduceEq, Int.reduceToNat, Int.reduceAdd, Int.reduceSub, Int.reduceMul, Int.reduceNeg, Nat.reducePow, Int.reducePow, Nat.reduceSubDiff, decide_true, decide_false, reduceCtorEq, or_self, or_false, false_or, or_true, true_or, if_false, gt_iff_lt, ge_iff_le, ne_eq, not_true_eq_false, not_false_eq_true, and_self, beq_self_eq_true, Bool.false_eq_true])
    refine runC ?_
    refine r_calln [2] hh ?_
    refine run ?_
    exact r_end [] []
  · have hsp := spec_FleetNewB of ho
    have him := impl_FleetNewB of ho
    refine runC ?_
    refine r_callp true hsp ?_
    refine runC ?_
    refine r_callp true him ?_
    refine runC ?_
    refine r_callp true eqFleet_0 ?_
    refine runC ?_
    refine r_callp true markFleet_0 ?_
    refine runC ?_
    refine r_callp true heldFleet_0 ?_
    refine runC ?_
    refine r_callp true him ?_
    refine runC ?_
    refine r_callp true eqFleet_0 ?_
    refine runC ?_
    refine r_callp true heldFleet_0 ?_
    refine run ?_
    exact r_end [] []
instance (of : Int) : Con Try.prog F.laws_FnExactFleetNew [.v (.int .i64 of)] True (.v (.bool true)) [] := ⟨fun _ => laws_FnExactFleetNew of⟩

end Go.TL
