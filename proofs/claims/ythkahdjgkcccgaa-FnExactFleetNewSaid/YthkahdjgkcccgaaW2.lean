/- Marks of new fleets. No conditions but those that are written. -/
import Derived.Test.YthkahdjgkcccgaaW1
import Derived.Test.YthkahdjgkcccgaaM0
namespace Go.TL
set_option linter.unusedSimpArgs false
open Go.Proofs Go.RowKit
attribute [local irreducible] wpOpsT wpT EndT Ex.seq Ex.block W

@[go_sem] theorem off_19 (x a b : Nat) : x * 19 + a + b = x * 19 + (a + b) := Nat.add_assoc ..

/-! ### Rows that are empty -/
theorem markFileS_0 (q : Nat) (k : Int) : CallsT Try.prog [] F.laws_markFileS [.sl false q 0 3 [], .v (.int .i64 k)] (.v (.int .i64 k)) [] := by
  refine fnT C.laws_markFileS ?_
  refine run ?_
  refine r_for 0 (fun i => [(0, .sl false q 0 3 []), (1, .v (.int .i64 k)), (5, .v (.int .i64 i))]) (fun _ => []) (fun _ => True) [] [] trivial Gc.of (fun i hi _ => absurd hi (Nat.not_lt_zero _)) (fun _ => ?_)
  refine run ?_
  exact r_end [] []
instance (q : Nat) (k : Int) : Con Try.prog F.laws_markFileS [.sl false q 0 3 [], .v (.int .i64 k)] True (.v (.int .i64 k)) [] := ⟨fun _ => markFileS_0 q k⟩

theorem heldFileS_0 (q : Nat) (k : Int) : CallsT Try.prog [] F.laws_heldFileS [.sl false q 0 3 [], .v (.int .i64 k)] (.v (.int .i64 k)) [] := by
  refine fnT C.laws_heldFileS ?_
  refine run ?_
  refine r_for 0 (fun i => [(0, .sl false q 0 3 []), (1, .v (.int .i64 k)), (5, .v (.int .i64 i))]) (fun _ => []) (fun _ => True) [] [] trivial Gc.of (fun i hi _ => absurd hi (Nat.not_lt_zero _)) (fun _ => ?_)
  refine run ?_
  exact r_end [] []
instance (q : Nat) (k : Int) : Con Try.prog F.laws_heldFileS [.sl false q 0 3 [], .v (.int .i64 k)] True (.v (.int .i64 k)) [] := ⟨fun _ => heldFileS_0 q k⟩

theorem markEntryS_0 (q : Nat) (k : Int) : CallsT Try.prog [] F.laws_markEntryS [.sl false q 0 6 [], .v (.int .i64 k)] (.v (.int .i64 k)) [] := by
  refine fnT C.laws_markEntryS ?_
  refine run ?_
  refine r_for 0 (fun i => [(0, .sl false q 0 6 []), (1, .v (.int .i64 k)), (5, .v (.int .i64 i))]) (fun _ => []) (fun _ => True) [] [] trivial Gc.of (fun i hi _ => absurd hi (Nat.not_lt_zero _)) (fun _ => ?_)
  refine run ?_
  exact r_end [] []
instance (q : Nat) (k : Int) : Con Try.prog F.laws_markEntryS [.sl false q 0 6 [], .v (.int .i64 k)] True (.v (.int .i64 k)) [] := ⟨fun _ => markEntryS_0 q k⟩

theorem heldEntryS_0 (q : Nat) (k : Int) : CallsT Try.prog [] F.laws_heldEntryS [.sl false q 0 6 [], .v (.int .i64 k)] (.v (.int .i64 k)) [] := by
  refine fnT C.laws_heldEntryS ?_
  refine run ?_
  refine r_for 0 (fun i => [(0, .sl false q 0 6 []), (1, .v (.int .i64 k)), (5, .v (.int .i64 i))]) (fun _ => []) (fun _ => True) [] [] trivial Gc.of (fun i hi _ => absurd hi (Nat.not_lt_zero _)) (fun _ => ?_)
  refine run ?_
  exact r_end [] []
instance (q : Nat) (k : Int) : Con Try.prog F.laws_heldEntryS [.sl false q 0 6 [], .v (.int .i64 k)] True (.v (.int .i64 k)) [] := ⟨fun _ => heldEntryS_0 q k⟩

theorem markRelS_0 (q : Nat) (k : Int) : CallsT Try.prog [] F.laws_markRelS [.sl false q 0 5 [], .v (.int .i64 k)] (.v (.int .i64 k)) [] := by
  refine fnT C.laws_markRelS ?_
  refine run ?_
  refine r_for 0 (fun i => [(0, .sl false q 0 5 []), (1, .v (.int .i64 k)), (5, .v (.int .i64 i))]) (fun _ => []) (fun _ => True) [] [] trivial Gc.of (fun i hi _ => absurd hi (Nat.not_lt_zero _)) (fun _ => ?_)
  refine run ?_
  exact r_end [] []
instance (q : Nat) (k : Int) : Con Try.prog F.laws_markRelS [.sl false q 0 5 [], .v (.int .i64 k)] True (.v (.int .i64 k)) [] := ⟨fun _ => markRelS_0 q k⟩

theorem heldRelS_0 (q : Nat) (k : Int) : CallsT Try.prog [] F.laws_heldRelS [.sl false q 0 5 [], .v (.int .i64 k)] (.v (.int .i64 k)) [] := by
  refine fnT C.laws_heldRelS ?_
  refine run ?_
  refine r_for 0 (fun i => [(0, .sl false q 0 5 []), (1, .v (.int .i64 k)), (5, .v (.int .i64 i))]) (fun _ => []) (fun _ => True) [] [] trivial Gc.of (fun i hi _ => absurd hi (Nat.not_lt_zero _)) (fun _ => ?_)
  refine run ?_
  exact r_end [] []
instance (q : Nat) (k : Int) : Con Try.prog F.laws_heldRelS [.sl false q 0 5 [], .v (.int .i64 k)] True (.v (.int .i64 k)) [] := ⟨fun _ => heldRelS_0 q k⟩

theorem markHeldS_0 (q : Nat) (k : Int) : CallsT Try.prog [] F.laws_markHeldS [.sl false q 0 4 [], .v (.int .i64 k)] (.v (.int .i64 k)) [] := by
  refine fnT C.laws_markHeldS ?_
  refine run ?_
  refine r_for 0 (fun i => [(0, .sl false q 0 4 []), (1, .v (.int .i64 k)), (5, .v (.int .i64 i))]) (fun _ => []) (fun _ => True) [] [] trivial Gc.of (fun i hi _ => absurd hi (Nat.not_lt_zero _)) (fun _ => ?_)
  refine run ?_
  exact r_end [] []
instance (q : Nat) (k : Int) : Con Try.prog F.laws_markHeldS [.sl false q 0 4 [], .v (.int .i64 k)] True (.v (.int .i64 k)) [] := ⟨fun _ => markHeldS_0 q k⟩

theorem heldHeldS_0 (q : Nat) (k : Int) : CallsT Try.prog [] F.laws_heldHeldS [.sl false q 0 4 [], .v (.int .i64 k)] (.v (.int .i64 k)) [] := by
  refine fnT C.laws_heldHeldS ?_
  refine run ?_
  refine r_for 0 (fun i => [(0, .sl false q 0 4 []), (1, .v (.int .i64 k)), (5, .v (.int .i64 i))]) (fun _ => []) (fun _ => True) [] [] trivial Gc.of (fun i hi _ => absurd hi (Nat.not_lt_zero _)) (fun _ => ?_)
  refine run ?_
  exact r_end [] []
instance (q : Nat) (k : Int) : Con Try.prog F.laws_heldHeldS [.sl false q 0 4 [], .v (.int .i64 k)] True (.v (.int .i64 k)) [] := ⟨fun _ => heldHeldS_0 q k⟩

theorem markFlightS_0 (q : Nat) (k : Int) : CallsT Try.prog [] F.laws_markFlightS [.sl false q 0 2 [], .v (.int .i64 k)] (.v (.int .i64 k)) [] := by
  refine fnT C.laws_markFlightS ?_
  refine run ?_
  refine r_for 0 (fun i => [(0, .sl false q 0 2 []), (1, .v (.int .i64 k)), (5, .v (.int .i64 i))]) (fun _ => []) (fun _ => True) [] [] trivial Gc.of (fun i hi _ => absurd hi (Nat.not_lt_zero _)) (fun _ => ?_)
  refine run ?_
  exact r_end [] []
instance (q : Nat) (k : Int) : Con Try.prog F.laws_markFlightS [.sl false q 0 2 [], .v (.int .i64 k)] True (.v (.int .i64 k)) [] := ⟨fun _ => markFlightS_0 q k⟩

theorem heldFlightS_0 (q : Nat) (k : Int) : CallsT Try.prog [] F.laws_heldFlightS [.sl false q 0 2 [], .v (.int .i64 k)] (.v (.int .i64 k)) [] := by
  refine fnT C.laws_heldFlightS ?_
  refine run ?_
  refine r_for 0 (fun i => [(0, .sl false q 0 2 []), (1, .v (.int .i64 k)), (5, .v (.int .i64 i))]) (fun _ => []) (fun _ => True) [] [] trivial Gc.of (fun i hi _ => absurd hi (Nat.not_lt_zero _)) (fun _ => ?_)
  refine run ?_
  exact r_end [] []
instance (q : Nat) (k : Int) : Con Try.prog F.laws_heldFlightS [.sl false q 0 2 [], .v (.int .i64 k)] True (.v (.int .i64 k)) [] := ⟨fun _ => heldFlightS_0 q k⟩

theorem heldIntS_0 (q : Nat) (k : Int) : CallsT Try.prog [] F.laws_heldIntS [.sl false q 0 1 [], .v (.int .i64 k)] (.v (.int .i64 k)) [] := by
  refine fnT C.laws_heldIntS ?_
  refine run ?_
  refine r_for 0 (fun i => [(0, .sl false q 0 1 []), (1, .v (.int .i64 k)), (5, .v (.int .i64 i))]) (fun _ => []) (fun _ => True) [] [] trivial Gc.of (fun i hi _ => absurd hi (Nat.not_lt_zero _)) (fun _ => ?_)
  refine run ?_
  exact r_end [] []
instance (q : Nat) (k : Int) : Con Try.prog F.laws_heldIntS [.sl false q 0 1 [], .v (.int .i64 k)] True (.v (.int .i64 k)) [] := ⟨fun _ => heldIntS_0 q k⟩

/-- A member that a law marks from k on. -/
def mkE (k : Int) : EmV := ⟨decide (k % 3 = 0), k + 1, k + 1 + 1, k + 1 + 1 + 1, k + 1 + 1 + 1 + 1, k + 1 + 1 + 1 + 1 + 1, k + 1 + 1 + 1 + 1 + 1 + 1, k + 1 + 1 + 1 + 1 + 1 + 1 + 1, k + 1 + 1 + 1 + 1 + 1 + 1 + 1 + 1, k + 1 + 1 + 1 + 1 + 1 + 1 + 1 + 1 + 1, k + 1 + 1 + 1 + 1 + 1 + 1 + 1 + 1 + 1 + 1⟩
def marksE (k : Int) (n : Nat) : List EmV := (List.range n).map fun (i : Nat) => mkE (k + 11 * (i : Int))
theorem marksE_len (k : Int) (n : Nat) : (marksE k n).length = n := by simp [marksE]
theorem marksE_s (k : Int) (n : Nat) : marksE k (n + 1) = marksE k n ++ [mkE (k + 11 * (n : Int))] := by simp [marksE, List.range_succ]
theorem marksE_nth (k : Int) {n i : Nat} (h : i < n) : nth (marksE k n) (i : Nat) = mkE (k + 11 * (i : Int)) := by
  rw [nth_nat (by rw [marksE_len]; exact h)]; simp [marksE]

set_option linter.unusedSimpArgs false in
set_option maxHeartbeats 8000000 in
theorem markMemberSR (l : List EmV) (k : Int) (hk : 0 < k) (hk2 : k + 11 * l.length ≤ 100000000) : CallsT Try.prog [⟨19, true, rowT emC l⟩] F.laws_markMemberS [.ref 0 [] 0 l.length, .v (.int .i64 k)] (.v (.int .i64 (k + 11 * l.length))) [⟨19, true, rowT emC (marksE k l.length)⟩] := by
  refine fnT C.laws_markMemberS ?_
  refine run ?_
  refine r_for l.length (fun i => [(0, .ref 0 [] 0 l.length), (1, .v (.int .i64 (k + 11 * (i : Int)))), (5, .v (.int .i64 i))]) (fun i => [⟨19, true, rowT emC (marksE k i) ++ rowT emC (l.drop i)⟩]) (fun _ => True) [0] [] trivial (Gc.of (hs := by simp only [marksE, List.range_zero, List.map_nil, rowT_nil, List.nil_append, List.drop_zero, List.append_nil]; (simp (disch := omega) only [go_sem, ↓reduceIte, Nat.reduceEqDiff, Nat.reduceMul, Nat.reduceAdd, Nat.reduceSub, Nat.reduceLT, Nat.reduceGT, Nat.reduceLeDiff, Nat.reduceBEq, Int.reduceLT, Int.reduceLE, Int.reduceNe, Int.reduceEq, Int.reduceToNat, Int.reduceAdd, Int.reduceSub, Int.reduceMul, Int.reduceNeg, Nat.reducePow, Int.reducePow, Nat.reduceSubDiff, decide_true, decide_false, reduceCtorEq, or_self, or_false, false_or, or_true, true_or, if_false, gt_iff_lt, ge_iff_le, ne_eq, not_true_eq_false, not_false_eq_true, and_self, beq_self_eq_true, Bool.false_eq_true, List.append_assoc]; exact WkS.refl _))) (fun i hi _ => ?_) (fun _ => ?_)
  · have hml := marksE_len k i
    rw [List.drop_eq_getElem_cons hi, rowT_cons, ← nth_nat hi]
    have hend : rowT emC (marksE k (i + 1)) = rowT emC (marksE k i) ++ emC (mkE (k + 11 * (i : Int))) := by
      rw [marksE_s, rowT_append, rowT_1]
    have hki : k + 11 * (i : Int) + 11 ≤ 100000000 := by omega
    have hk0 : 0 < k + 11 * (i : Int) := by omega
    rw [hend]
    have e11 : k + 11 * ((i + 1 : Nat) : Int) = k + 11 * (i : Int) + 1 + 1 + 1 + 1 + 1 + 1 + 1 + 1 + 1 + 1 + 1 := by omega
    rw [e11]
    generalize k + 11 * (i : Int) = m at *
    dsimp only [emC, List.cons_append, List.nil_append]
    refine run ?_
    refine r_stw ?_
    refine run ?_
    refine r_stw ?_
    refine run ?_
    refine r_stw ?_
    refine run ?_
    refine r_stw ?_
    refine run ?_
    refine r_stw ?_
    refine run ?_
    refine r_stw ?_
    refine run ?_
    refine r_stw ?_
    refine run ?_
    refine r_stw ?_
    refine run ?_
    refine r_stw ?_
    refine run ?_
    refine r_stw ?_
    refine run ?_
    refine r_stw ?_
    refine run ?_
    refine ⟨[0], [], Gc.of (hs := ?_), trivial⟩
    simp only [Bool.decide_eq_true]
    simp only [mkE]
    (simp (disch := omega) only [go_sem, ↓reduceIte, Nat.reduceEqDiff, Nat.reduceMul, Nat.reduceAdd, Nat.reduceSub, Nat.reduceLT, Nat.reduceGT, Nat.reduceLeDiff, Nat.reduceBEq, Int.reduceLT, Int.reduceLE, Int.reduceNe, Int.reduceEq, Int.reduceToNat, Int.reduceAdd, Int.reduceSub, Int.reduceMul, Int.reduceNeg, Nat.reducePow, Int.reducePow, Nat.reduceSubDiff, decide_true, decide_false, reduceCtorEq, or_self, or_false, false_or, or_true, true_or, if_false, gt_iff_lt, ge_iff_le, ne_eq, not_true_eq_false, not_false_eq_true, and_self, beq_self_eq_true, Bool.false_eq_true, List.append_assoc]; exact WkS.refl _)
  · rw [List.drop_of_length_le (Nat.le_refl _), rowT_nil, List.append_nil]
    refine run ?_
    exact r_end [0] []

/-- The fleet's row is marked; it has no mail. -/
theorem markFleetR (of : Int) (l : List EmV) (k : Int) (hk : 0 < k) (hk2 : k + 11 * l.length ≤ 100000000) : CallsT Try.prog [⟨19, true, rowT emC l⟩] F.laws_markFleet [.agg [.v (.int .i64 of), .ref 0 [] 0 l.length, .v (.slice none 0 0)], .v (.int .i64 k)] (.v (.int .i64 (k + 11 * l.length))) [⟨19, true, rowT emC (marksE k l.length)⟩] := by
  refine fnT C.laws_markFleet ?_
  refine runC ?_
  refine r_calln [0] (markMemberSR l k hk hk2) ?_
  refine runC ?_
  refine r_callp true (markFlightS_0 1 _) ?_ (ts1 := [.sl false 0 0 2 [], .v (.int .i64 (k + 11 * l.length))]) (hk := by (simp only [go_sem, ↓reduceIte, Nat.reduceEqDiff, Nat.reduceMul, Nat.reduceAdd, Nat.reduceSub, Nat.reduceLT, Nat.reduceGT, Nat.reduceLeDiff, Nat.reduceBEq, Int.reduceLT, Int.reduceLE, Int.reduceNe, Int.reduceEq, Int.reduceToNat, Int.reduceAdd, Int.reduceSub, Int.reduceMul, Int.reduceNeg, Nat.reducePow, Int.reducePow, Nat.reduceSubDiff, decide_true, decide_false, reduceCtorEq, or_self, or_false, false_or, or_true, true_or, if_false, gt_iff_lt, ge_iff_le, ne_eq, not_true_eq_false, not_false_eq_true, and_self, beq_self_eq_true, Bool.false_eq_true]; try (repeat (first | exact True.intro | exact Wk.refl _ | exact Wk.nil _ _ | exact Wk.dead _ | exact Wk.bT (by assumption) | exact Wk.bF (by assumption) | exact Wk.eqI (by omega) | exact WkS.refl _ | exact Wks.same _ | exact Wks.nil | exact WkS.nil | refine And.intro ?_ ?_ | refine Wk.aggs ?_ | refine Wk.tups ?_ | refine Wks.cons ?_ ?_ | refine WkS.cons (by first | exact fun _ => rfl | exact fun h => absurd h Bool.false_ne_true) ?_ ?_ ?_ | assumption | exact (fun h => h) | exact (fun h => absurd h Bool.false_ne_true) | intro _))))
  refine run ?_
  exact r_end [0] []

end Go.TL
