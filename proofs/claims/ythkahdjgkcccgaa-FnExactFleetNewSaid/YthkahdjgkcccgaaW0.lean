/- New rafts and new fleets, by both sides. No conditions but those that are written. -/
import Derived.Test.YthkahdjgkcccgaaE3
import Derived.Test.YthkahdjgkcccgaaF3
import Derived.Test.YthkahdjgkcccgaaR0
import Derived.Test.YthkahdjgkcccgaaTNst
import Derived.Test.YthkahdjgkcccgaaTAny
namespace Go.TL
set_option linter.unusedSimpArgs false
open Go.Proofs Go.RowKit
attribute [local irreducible] wpOpsT wpT EndT Ex.seq Ex.block W

set_option maxHeartbeats 4000000 in
theorem spec_l6Copy (k : Nat) (term vote : Int) (log : List EntryV) (hpre : log.length ≤ 90000000) : CallsT Try.prog [] F.spec_l6Copy [.agg [.v (.int .i64 term), .v (.int .i64 vote), .sl false k log.length 6 (rowT entryC log)]] (.agg [.v (.int .i64 term), .v (.int .i64 vote), .sl false 0 log.length 6 (rowT entryC log)]) [] := by
  refine fnT C.spec_l6Copy ?_
  refine run ?_
  refine r_app (enc := entryC) [] log (by simp only [List.length_nil]; omega) ?_
  rw [List.nil_append]
  refine run ?_
  exact r_end [] [3]
instance (k : Nat) (term vote : Int) (log : List EntryV) : Con Try.prog F.spec_l6Copy [.agg [.v (.int .i64 term), .v (.int .i64 vote), .sl false k log.length 6 (rowT entryC log)]] (log.length ≤ 90000000) (.agg [.v (.int .i64 term), .v (.int .i64 vote), .sl false 0 log.length 6 (rowT entryC log)]) [] := ⟨fun h => spec_l6Copy k term vote log h⟩

set_option maxHeartbeats 4000000 in
theorem impl_copyLog (k : Nat) (log : List EntryV) (hpre : log.length ≤ 90000000) : CallsT Try.prog [] F.impl_copyLog [.sl false k log.length 6 (rowT entryC log)] (.sl false 0 log.length 6 (rowT entryC log)) [] := by
  refine fnT C.impl_copyLog ?_
  refine run ?_
  refine r_app (enc := entryC) [] log (by simp only [List.length_nil]; omega) ?_
  rw [List.nil_append]
  refine run ?_
  exact r_end [] [1]
instance (k : Nat) (log : List EntryV) : Con Try.prog F.impl_copyLog [.sl false k log.length 6 (rowT entryC log)] (log.length ≤ 90000000) (.sl false 0 log.length 6 (rowT entryC log)) [] := ⟨fun h => impl_copyLog k log h⟩

set_option maxHeartbeats 4000000 in
theorem impl_copyHard (k : Nat) (term vote : Int) (log : List EntryV) (hpre : log.length ≤ 90000000) : CallsT Try.prog [] F.impl_copyHard [.agg [.v (.int .i64 term), .v (.int .i64 vote), .sl false k log.length 6 (rowT entryC log)]] (.agg [.v (.int .i64 term), .v (.int .i64 vote), .sl false 0 log.length 6 (rowT entryC log)]) [] := by
  refine fnT C.impl_copyHard ?_
  refine run ?_
  exact r_end [] []
instance (k : Nat) (term vote : Int) (log : List EntryV) : Con Try.prog F.impl_copyHard [.agg [.v (.int .i64 term), .v (.int .i64 vote), .sl false k log.length 6 (rowT entryC log)]] (log.length ≤ 90000000) (.agg [.v (.int .i64 term), .v (.int .i64 vote), .sl false 0 log.length 6 (rowT entryC log)]) [] := ⟨fun h => impl_copyHard k term vote log h⟩

theorem raft_new {id of : Int} (ho : ofP of) (h0 : 0 ≤ id) (h1 : id ≤ of - 1) : raftP id of 1 0 0 0 [] [] [] [] := by
  unfold raftP hardP nodesP numsP
  have hw := wrap_of ho
  refine ⟨ho, ⟨h0, h1⟩, by omega, ?_, ?_, ?_, ?_, ?_, ?_, ?_, ?_⟩ <;> simp

theorem copyHard0 : CallsT Try.prog [] F.impl_copyHard [.agg [.v (.int .i64 0), .v (.int .i64 0), .sl false 1 0 6 []]] (.agg [.v (.int .i64 0), .v (.int .i64 0), .sl false 0 0 6 []]) [] := impl_copyHard 1 0 0 [] (by simp)
theorem l6Copy0 : CallsT Try.prog [] F.spec_l6Copy [.agg [.v (.int .i64 0), .v (.int .i64 0), .sl false 1 0 6 []]] (.agg [.v (.int .i64 0), .v (.int .i64 0), .sl false 0 0 6 []]) [] := spec_l6Copy 1 0 0 [] (by simp)

set_option maxHeartbeats 4000000 in
theorem impl_RaftNew (id of : Int) (hpre : ofP of ∧ 0 ≤ id ∧ id ≤ of - 1) : CallsT Try.prog [] F.impl_RaftNew [.v (.int .i64 id), .v (.int .i64 of), .agg [.v (.int .i64 0), .v (.int .i64 0), .v (.slice none 0 0)]] (.tup [.agg [.v (.int .i64 id), .v (.int .i64 of), .v (.int .i64 1), .v (.int .i64 0), .v (.int .i64 0), .v (.int .i64 0), .sl false 0 0 6 [], .sl false 0 0 1 [], .sl false 0 0 1 [], .sl false 0 0 1 []], .v (.bool true)]) [] := by
  refine fnT C.impl_RaftNew ?_
  obtain ⟨ho, h0, h1⟩ := hpre
  have hr := impl_RaftOk 1 1 1 1 id of 1 0 0 0 [] [] [] [] ⟨⟨by simp, fun _ h => by cases h⟩, by simp [bndIS], by simp [bndIS], by simp [bndIS]⟩
  rw [decide_eq_true (raft_new ho h0 h1)] at hr
  refine runC ?_
  refine r_callp true copyHard0 ?_ (ts1 := [.agg [.v (.int .i64 0), .v (.int .i64 0), .sl false 0 0 6 []]]) (hk := by (simp only [go_sem, ↓reduceIte, Nat.reduceEqDiff, Nat.reduceMul, Nat.reduceAdd, Nat.reduceSub, Nat.reduceLT, Nat.reduceGT, Nat.reduceLeDiff, Nat.reduceBEq, Int.reduceLT, Int.reduceLE, Int.reduceNe, Int.reduceEq, Int.reduceToNat, Int.reduceAdd, Int.reduceSub, Int.reduceMul, Int.reduceNeg, Nat.reducePow, Int.reducePow, Nat.reduceSubDiff, decide_true, decide_false, reduceCtorEq, or_self, or_false, false_or, or_true, true_or, if_false, gt_iff_lt, ge_iff_le, ne_eq, not_true_eq_false, not_false_eq_true, and_self, beq_self_eq_true, Bool.false_eq_true]; try (repeat (first | exact True.intro | exact Wk.refl _ | exact Wk.nil _ _ | exact Wk.dead _ | exact Wk.bT (by assumption) | exact Wk.bF (by assumption) | exact Wk.eqI (by omega) | exact WkS.refl _ | exact Wks.same _ | exact Wks.nil | exact WkS.nil | refine And.intro ?_ ?_ | refine Wk.aggs ?_ | refine Wk.tups ?_ | refine Wks.cons ?_ ?_ | refine WkS.cons (by first | exact fun _ => rfl | exact fun h => absurd h Bool.false_ne_true) ?_ ?_ ?_ | assumption | exact (fun h => h) | exact (fun h => absurd h Bool.false_ne_true) | intro _))))
  refine runC ?_
  refine r_callp true hr ?_ (ts1 := [.agg [.v (.int .i64 id), .v (.int .i64 of), .v (.int .i64 1), .v (.int .i64 0), .v (.int .i64 0), .v (.int .i64 0), .sl false 0 0 6 [], .sl false 0 0 1 [], .sl false 0 0 1 [], .sl false 0 0 1 []]]) (hk := by (simp only [go_sem, ↓reduceIte, Nat.reduceEqDiff, Nat.reduceMul, Nat.reduceAdd, Nat.reduceSub, Nat.reduceLT, Nat.reduceGT, Nat.reduceLeDiff, Nat.reduceBEq, Int.reduceLT, Int.reduceLE, Int.reduceNe, Int.reduceEq, Int.reduceToNat, Int.reduceAdd, Int.reduceSub, Int.reduceMul, Int.reduceNeg, Nat.reducePow, Int.reducePow, Nat.reduceSubDiff, decide_true, decide_false, reduceCtorEq, or_self, or_false, false_or, or_true, true_or, if_false, gt_iff_lt, ge_iff_le, ne_eq, not_true_eq_false, not_false_eq_true, and_self, beq_self_eq_true, Bool.false_eq_true]; try (repeat (first | exact True.intro | exact Wk.refl _ | exact Wk.nil _ _ | exact Wk.dead _ | exact Wk.bT (by assumption) | exact Wk.bF (by assumption) | exact Wk.eqI (by omega) | exact WkS.refl _ | exact Wks.same _ | exact Wks.nil | exact WkS.nil | refine And.intro ?_ ?_ | refine Wk.aggs ?_ | refine Wk.tups ?_ | refine Wks.cons ?_ ?_ | refine WkS.cons (by first | exact fun _ => rfl | exact fun h => absurd h Bool.false_ne_true) ?_ ?_ ?_ | assumption | exact (fun h => h) | exact (fun h => absurd h Bool.false_ne_true) | intro _))))
  refine run ?_
  exact r_end [] []
instance (id of : Int) : Con Try.prog F.impl_RaftNew [.v (.int .i64 id), .v (.int .i64 of), .agg [.v (.int .i64 0), .v (.int .i64 0), .v (.slice none 0 0)]] (ofP of ∧ 0 ≤ id ∧ id ≤ of - 1) (.tup [.agg [.v (.int .i64 id), .v (.int .i64 of), .v (.int .i64 1), .v (.int .i64 0), .v (.int .i64 0), .v (.int .i64 0), .sl false 0 0 6 [], .sl false 0 0 1 [], .sl false 0 0 1 [], .sl false 0 0 1 []], .v (.bool true)]) [] := ⟨fun h => impl_RaftNew id of h⟩

set_option maxHeartbeats 4000000 in
theorem spec_RaftNew (id of : Int) (hpre : ofP of ∧ 0 ≤ id ∧ id ≤ of - 1) : CallsT Try.prog [] F.spec_RaftNew [.v (.int .i64 id), .v (.int .i64 of), .agg [.v (.int .i64 0), .v (.int .i64 0), .v (.slice none 0 0)]] (.tup [.agg [.v (.int .i64 id), .v (.int .i64 of), .v (.int .i64 1), .v (.int .i64 0), .v (.int .i64 0), .v (.int .i64 0), .sl false 0 0 6 [], .sl false 0 0 1 [], .sl false 0 0 1 [], .sl false 0 0 1 []], .v (.bool true)]) [] := by
  refine fnT C.spec_RaftNew ?_
  obtain ⟨ho, h0, h1⟩ := hpre
  have hr := spec_RaftOk 1 1 1 1 id of 1 0 0 0 [] [] [] [] ⟨⟨by simp, fun _ h => by cases h⟩, by simp [bndIS], by simp [bndIS], by simp [bndIS]⟩
  rw [decide_eq_true (raft_new ho h0 h1)] at hr
  refine runC ?_
  refine r_callp true l6Copy0 ?_ (ts1 := [.agg [.v (.int .i64 0), .v (.int .i64 0), .sl false 0 0 6 []]]) (hk := by (simp only [go_sem, ↓reduceIte, Nat.reduceEqDiff, Nat.reduceMul, Nat.reduceAdd, Nat.reduceSub, Nat.reduceLT, Nat.reduceGT, Nat.reduceLeDiff, Nat.reduceBEq, Int.reduceLT, Int.reduceLE, Int.reduceNe, Int.reduceEq, Int.reduceToNat, Int.reduceAdd, Int.reduceSub, Int.reduceMul, Int.reduceNeg, Nat.reducePow, Int.reducePow, Nat.reduceSubDiff, decide_true, decide_false, reduceCtorEq, or_self, or_false, false_or, or_true, true_or, if_false, gt_iff_lt, ge_iff_le, ne_eq, not_true_eq_false, not_false_eq_true, and_self, beq_self_eq_true, Bool.false_eq_true]; try (repeat (first | exact True.intro | exact Wk.refl _ | exact Wk.nil _ _ | exact Wk.dead _ | exact Wk.bT (by assumption) | exact Wk.bF (by assumption) | exact Wk.eqI (by omega) | exact WkS.refl _ | exact Wks.same _ | exact Wks.nil | exact WkS.nil | refine And.intro ?_ ?_ | refine Wk.aggs ?_ | refine Wk.tups ?_ | refine Wks.cons ?_ ?_ | refine WkS.cons (by first | exact fun _ => rfl | exact fun h => absurd h Bool.false_ne_true) ?_ ?_ ?_ | assumption | exact (fun h => h) | exact (fun h => absurd h Bool.false_ne_true) | intro _))))
  refine runC ?_
  refine r_callp true hr ?_ (ts1 := [.agg [.v (.int .i64 id), .v (.int .i64 of), .v (.int .i64 1), .v (.int .i64 0), .v (.int .i64 0), .v (.int .i64 0), .sl false 0 0 6 [], .sl false 0 0 1 [], .sl false 0 0 1 [], .sl false 0 0 1 []]]) (hk := by (simp only [go_sem, ↓reduceIte, Nat.reduceEqDiff, Nat.reduceMul, Nat.reduceAdd, Nat.reduceSub, Nat.reduceLT, Nat.reduceGT, Nat.reduceLeDiff, Nat.reduceBEq, Int.reduceLT, Int.reduceLE, Int.reduceNe, Int.reduceEq, Int.reduceToNat, Int.reduceAdd, Int.reduceSub, Int.reduceMul, Int.reduceNeg, Nat.reducePow, Int.reducePow, Nat.reduceSubDiff, decide_true, decide_false, reduceCtorEq, or_self, or_false, false_or, or_true, true_or, if_false, gt_iff_lt, ge_iff_le, ne_eq, not_true_eq_false, not_false_eq_true, and_self, beq_self_eq_true, Bool.false_eq_true]; try (repeat (first | exact True.intro | exact Wk.refl _ | exact Wk.nil _ _ | exact Wk.dead _ | exact Wk.bT (by assumption) | exact Wk.bF (by assumption) | exact Wk.eqI (by omega) | exact WkS.refl _ | exact Wks.same _ | exact Wks.nil | exact WkS.nil | refine And.intro ?_ ?_ | refine Wk.aggs ?_ | refine Wk.tups ?_ | refine Wks.cons ?_ ?_ | refine WkS.cons (by first | exact fun _ => rfl | exact fun h => absurd h Bool.false_ne_true) ?_ ?_ ?_ | assumption | exact (fun h => h) | exact (fun h => absurd h Bool.false_ne_true) | intro _))))
  refine run ?_
  exact r_end [] []
instance (id of : Int) : Con Try.prog F.spec_RaftNew [.v (.int .i64 id), .v (.int .i64 of), .agg [.v (.int .i64 0), .v (.int .i64 0), .v (.slice none 0 0)]] (ofP of ∧ 0 ≤ id ∧ id ≤ of - 1) (.tup [.agg [.v (.int .i64 id), .v (.int .i64 of), .v (.int .i64 1), .v (.int .i64 0), .v (.int .i64 0), .v (.int .i64 0), .sl false 0 0 6 [], .sl false 0 0 1 [], .sl false 0 0 1 [], .sl false 0 0 1 []], .v (.bool true)]) [] := ⟨fun h => spec_RaftNew id of h⟩

end Go.TL
