/- Sources and tables that laws make, compare, mark and hold. No conditions but those that are written. -/
import Derived.Test.YtkecbkljfpebhaaX7
import Derived.Test.YtkecbkljfpebhaaA5
import Derived.Test.YtkecbkljfpebhaaTNst
import Derived.Test.YtkecbkljfpebhaaTLm
namespace Go.TL
set_option linter.unusedSimpArgs false
open Go.Proofs Go.RowKit
attribute [local irreducible] wpOpsT wpT EndT Ex.seq Ex.block W

theorem off_9 (x a b : Nat) : x * 9 + a + b = x * 9 + (a + b) := Nat.add_assoc ..
attribute [local go_sem] off_9

set_option maxHeartbeats 4000000 in
theorem laws_toOn (x0 x1 x2 : Int) : CallsT Try.prog [] F.laws_toOn [.agg [.v (.int .i64 x0), .v (.int .i64 x1), .v (.int .i64 x2)]] (.agg [.v (.int .i64 x0), .v (.int .i64 x1), .v (.int .i64 x2)]) [] := by
  refine fnT C.laws_toOn ?_
  refine run ?_
  exact r_end [] []
instance (x0 x1 x2 : Int) : Con Try.prog F.laws_toOn [.agg [.v (.int .i64 x0), .v (.int .i64 x1), .v (.int .i64 x2)]] True (.agg [.v (.int .i64 x0), .v (.int .i64 x1), .v (.int .i64 x2)]) [] := ⟨fun _ => laws_toOn x0 x1 x2⟩

set_option maxHeartbeats 4000000 in
theorem laws_eqOn (x0 x1 x2 : Int) : CallsT Try.prog [] F.laws_eqOn [.agg [.v (.int .i64 x0), .v (.int .i64 x1), .v (.int .i64 x2)], .agg [.v (.int .i64 x0), .v (.int .i64 x1), .v (.int .i64 x2)]] (.v (.bool true)) [] := by
  refine fnT C.laws_eqOn ?_
  refine run ?_
  exact r_end [] []
instance (x0 x1 x2 : Int) : Con Try.prog F.laws_eqOn [.agg [.v (.int .i64 x0), .v (.int .i64 x1), .v (.int .i64 x2)], .agg [.v (.int .i64 x0), .v (.int .i64 x1), .v (.int .i64 x2)]] True (.v (.bool true)) [] := ⟨fun _ => laws_eqOn x0 x1 x2⟩

set_option maxHeartbeats 4000000 in
theorem laws_szRuleS (k : Nat) (l : List RuleV) (left : Int) (hpre : l.length ≤ 140737488351232 ∧ 0 ≤ left ∧ left ≤ 1048576) : CallsT Try.prog [] F.laws_szRuleS [.sl false k l.length 9 (rowT ruleC l), .v (.int .i64 left)] (.v (.int .i64 (cutI (left - l.length)))) [] := by
  refine fnT C.laws_szRuleS ?_
  obtain ⟨hb1, h0, h1⟩ := hpre
  refine run ?_
  refine r_ifd (fun h => ?_) (fun h => ?_)
  · rw [show cutI (left - l.length) = -1 from if_pos (by omega)]
    refine run ?_
    exact r_end [] []
  rw [show cutI (left - l.length) = left - l.length from if_neg (by omega)]
  refine run ?_
  exact r_end [] []
instance (k : Nat) (l : List RuleV) (left : Int) : Con Try.prog F.laws_szRuleS [.sl false k l.length 9 (rowT ruleC l), .v (.int .i64 left)] (l.length ≤ 140737488351232 ∧ 0 ≤ left ∧ left ≤ 1048576) (.v (.int .i64 (cutI (left - l.length)))) [] := ⟨fun h => laws_szRuleS k l left h⟩

set_option maxHeartbeats 4000000 in
theorem laws_toRule (x0 x1 x2 x3 x4 x5 x6 x7 x8 : Int) : CallsT Try.prog [] F.laws_toRule [.agg [.v (.int .i64 x0), .v (.int .i64 x1), .v (.int .i64 x2), .v (.int .i64 x3), .v (.int .i64 x4), .v (.int .i64 x5), .v (.int .i64 x6), .v (.int .i64 x7), .v (.int .i64 x8)]] (.agg [.v (.int .i64 x0), .v (.int .i64 x1), .v (.int .i64 x2), .v (.int .i64 x3), .v (.int .i64 x4), .v (.int .i64 x5), .v (.int .i64 x6), .v (.int .i64 x7), .v (.int .i64 x8)]) [] := by
  refine fnT C.laws_toRule ?_
  refine run ?_
  exact r_end [] []
instance (x0 x1 x2 x3 x4 x5 x6 x7 x8 : Int) : Con Try.prog F.laws_toRule [.agg [.v (.int .i64 x0), .v (.int .i64 x1), .v (.int .i64 x2), .v (.int .i64 x3), .v (.int .i64 x4), .v (.int .i64 x5), .v (.int .i64 x6), .v (.int .i64 x7), .v (.int .i64 x8)]] True (.agg [.v (.int .i64 x0), .v (.int .i64 x1), .v (.int .i64 x2), .v (.int .i64 x3), .v (.int .i64 x4), .v (.int .i64 x5), .v (.int .i64 x6), .v (.int .i64 x7), .v (.int .i64 x8)]) [] := ⟨fun _ => laws_toRule x0 x1 x2 x3 x4 x5 x6 x7 x8⟩

@[go_sem] theorem mkR_Ru (n : Nat) : mkR [.v (.int .i64 0), .v (.int .i64 0), .v (.int .i64 0), .v (.int .i64 0), .v (.int .i64 0), .v (.int .i64 0), .v (.int .i64 0), .v (.int .i64 0), .v (.int .i64 0)] n = ((List.replicate n (default : RuleV)).length, rowT ruleC (List.replicate n default)) := mkR_enc ruleC default n

set_option maxHeartbeats 4000000 in
theorem laws_toRuleS (k : Nat) (l : List RuleV) (hpre : l.length * 72 ≤ 140737488351232) : CallsT Try.prog [] F.laws_toRuleS [.sl false k l.length 9 (rowT ruleC l)] (.sl false 0 l.length 9 (rowT ruleC l)) [] := by
  refine fnT C.laws_toRuleS ?_
  refine run ?_
  rw [List.length_replicate]
  refine r_for l.length (fun i => [(0, .sl false k l.length 9 (rowT ruleC l)), (3, .ref 0 [] 0 l.length), (4, .v (.int .i64 i))]) (fun i => [⟨9, true, rowT ruleC (l.take i ++ (List.replicate l.length default).drop i)⟩]) (fun _ => True) [0] [] trivial Gc.of (fun i hi _ => ?_) (fun _ => ?_)
  · refine run ?_
    refine r_sto (enc := ruleC) _ i (nth l i) ?_
    rw [set_mix hi (by simp)]
    refine run ?_
    exact ⟨[0], [], Gc.of, trivial⟩
  · rw [List.take_length, List.drop_of_length_le (by simp), List.append_nil]
    refine run ?_
    exact r_end [] [0]
instance (k : Nat) (l : List RuleV) : Con Try.prog F.laws_toRuleS [.sl false k l.length 9 (rowT ruleC l)] (l.length * 72 ≤ 140737488351232) (.sl false 0 l.length 9 (rowT ruleC l)) [] := ⟨fun h => laws_toRuleS k l h⟩

theorem toRuleSO (k : Nat) (l : List RuleV) (hpre : l.length * 72 ≤ 140737488351232) : CallsT Try.prog [] F.laws_toRuleS [.sl false k l.length 9 (rowT ruleC l)] (.ref 0 [] 0 l.length) [⟨9, true, rowT ruleC l⟩] := by
  refine fnT C.laws_toRuleS ?_
  refine run ?_
  rw [List.length_replicate]
  refine r_for l.length (fun i => [(0, .sl false k l.length 9 (rowT ruleC l)), (3, .ref 0 [] 0 l.length), (4, .v (.int .i64 i))]) (fun i => [⟨9, true, rowT ruleC (l.take i ++ (List.replicate l.length default).drop i)⟩]) (fun _ => True) [0] [] trivial Gc.of (fun i hi _ => ?_) (fun _ => ?_)
  · refine run ?_
    refine r_sto (enc := ruleC) _ i (nth l i) ?_
    rw [set_mix hi (by simp)]
    refine run ?_
    exact ⟨[0], [], Gc.of, trivial⟩
  · rw [List.take_length, List.drop_of_length_le (by simp), List.append_nil]
    refine run ?_
    exact r_end [0] []

set_option maxHeartbeats 4000000 in
theorem laws_eqRule (x0 x1 x2 x3 x4 x5 x6 x7 x8 : Int) : CallsT Try.prog [] F.laws_eqRule [.agg [.v (.int .i64 x0), .v (.int .i64 x1), .v (.int .i64 x2), .v (.int .i64 x3), .v (.int .i64 x4), .v (.int .i64 x5), .v (.int .i64 x6), .v (.int .i64 x7), .v (.int .i64 x8)], .agg [.v (.int .i64 x0), .v (.int .i64 x1), .v (.int .i64 x2), .v (.int .i64 x3), .v (.int .i64 x4), .v (.int .i64 x5), .v (.int .i64 x6), .v (.int .i64 x7), .v (.int .i64 x8)]] (.v (.bool true)) [] := by
  refine fnT C.laws_eqRule ?_
  refine run ?_
  exact r_end [] []
instance (x0 x1 x2 x3 x4 x5 x6 x7 x8 : Int) : Con Try.prog F.laws_eqRule [.agg [.v (.int .i64 x0), .v (.int .i64 x1), .v (.int .i64 x2), .v (.int .i64 x3), .v (.int .i64 x4), .v (.int .i64 x5), .v (.int .i64 x6), .v (.int .i64 x7), .v (.int .i64 x8)], .agg [.v (.int .i64 x0), .v (.int .i64 x1), .v (.int .i64 x2), .v (.int .i64 x3), .v (.int .i64 x4), .v (.int .i64 x5), .v (.int .i64 x6), .v (.int .i64 x7), .v (.int .i64 x8)]] True (.v (.bool true)) [] := ⟨fun _ => laws_eqRule x0 x1 x2 x3 x4 x5 x6 x7 x8⟩

set_option maxHeartbeats 4000000 in
theorem laws_eqRuleS (k k2 : Nat) (l : List RuleV) (hpre : l.length ≤ 140737488351232) : CallsT Try.prog [] F.laws_eqRuleS [.sl false k l.length 9 (rowT ruleC l), .sl false k2 l.length 9 (rowT ruleC l)] (.v (.bool true)) [] := by
  refine fnT C.laws_eqRuleS ?_
  refine run ?_
  refine r_for l.length (fun i => [(0, .sl false k l.length 9 (rowT ruleC l)), (1, .sl false k2 l.length 9 (rowT ruleC l)), (5, .v (.int .i64 i))]) (fun _ => []) (fun _ => True) [] [] trivial Gc.of (fun i hi _ => ?_) (fun _ => ?_)
  · refine run ?_
    exact ⟨[], [], Gc.of, trivial⟩
  · refine run ?_
    exact r_end [] []
instance (k k2 : Nat) (l : List RuleV) : Con Try.prog F.laws_eqRuleS [.sl false k l.length 9 (rowT ruleC l), .sl false k2 l.length 9 (rowT ruleC l)] (l.length ≤ 140737488351232) (.v (.bool true)) [] := ⟨fun h => laws_eqRuleS k k2 l h⟩

def markRu1 (k : Int) : RuleV := ⟨k, k + 1, k + 1 + 1, k + 1 + 1 + 1, k + 1 + 1 + 1 + 1, k + 1 + 1 + 1 + 1 + 1, k + 1 + 1 + 1 + 1 + 1 + 1, k + 1 + 1 + 1 + 1 + 1 + 1 + 1, k + 1 + 1 + 1 + 1 + 1 + 1 + 1 + 1⟩
def marksRu (k : Int) (n : Nat) : List RuleV := (List.range n).map fun (i : Nat) => markRu1 (k + 9 * (i : Int))
theorem marksRu_len (k : Int) (n : Nat) : (marksRu k n).length = n := by simp [marksRu]
theorem marksRu_s (k : Int) (n : Nat) : marksRu k (n + 1) = marksRu k n ++ [markRu1 (k + 9 * (n : Int))] := by simp [marksRu, List.range_succ]
theorem marksRu_nth (k : Int) (n i : Nat) (h : i < n) : nth (marksRu k n) (i : Nat) = markRu1 (k + 9 * (i : Int)) := by
  rw [nth_nat (by rw [marksRu_len]; exact h)]
  simp [marksRu]

set_option linter.unusedSimpArgs false in
theorem markRuleS1 (l : List RuleV) (k : Int) (hk : 0 ≤ k) (hk2 : k + 9 * l.length ≤ 100000000) : CallsT Try.prog [⟨9, true, rowT ruleC l⟩] F.laws_markRuleS [.ref 0 [] 0 l.length, .v (.int .i64 k)] (.v (.int .i64 (k + 9 * l.length))) [⟨9, true, rowT ruleC (marksRu k l.length)⟩] := by
  refine fnT C.laws_markRuleS ?_
  refine run ?_
  refine r_for l.length (fun i => [(0, .ref 0 [] 0 l.length), (1, .v (.int .i64 (k + 9 * (i : Int)))), (5, .v (.int .i64 i))]) (fun i => [⟨9, true, rowT ruleC (marksRu k i) ++ rowT ruleC (l.drop i)⟩]) (fun _ => True) [0] [] trivial (Gc.of (hs := by simp only [marksRu, List.range_zero, List.map_nil, rowT_nil, List.nil_append, List.drop_zero, List.append_nil]; (simp (disch := omega) only [go_sem, ↓reduceIte, Nat.reduceEqDiff, Nat.reduceMul, Nat.reduceAdd, Nat.reduceSub, Nat.reduceLT, Nat.reduceGT, Nat.reduceLeDiff, Nat.reduceBEq, Int.reduceLT, Int.reduceLE, Int.reduceNe, Int.reduceEq, Int.reduceToNat, Int.reduceAdd, Int.reduceSub, Int.reduceMul, Int.reduceNeg, Nat.reducePow, Int.reducePow, Nat.reduceSubDiff, decide_true, decide_false, reduceCtorEq, or_self, or_false, false_or, or_true, true_or, if_false, gt_iff_lt, ge_iff_le, ne_eq, not_true_eq_false, not_false_eq_true, and_self, beq_self_eq_true, Bool.false_eq_true, List.append_assoc]; exact WkS.refl _))) (fun i hi _ => ?_) (fun _ => ?_)
  · have hml := marksRu_len k i
    rw [List.drop_eq_getElem_cons hi, rowT_cons, ← nth_nat hi]
    dsimp only [ruleC, List.cons_append, List.nil_append]
    have hend : rowT ruleC (marksRu k (i + 1)) = rowT ruleC (marksRu k i) ++ ruleC (markRu1 (k + 9 * (i : Int))) := by
      rw [marksRu_s, rowT_append, rowT_1]
    refine run ?_
    refine r_stw ?_
    refine run ?_
    refine r_stw ?_
    refine run ?_
    refine r_stw ?_
    refine run ?_
    refine r_stw ?_
    refine run ?_
    refine r_stw ?_
    refine run ?_
    refine r_stw ?_
    refine run ?_
    refine r_stw ?_
    refine run ?_
    refine r_stw ?_
    refine run ?_
    refine r_stw ?_
    refine run ?_
    refine ⟨[0], [], Gc.of (hs := ?_), trivial⟩
    rw [hend]
    simp only [markRu1, ruleC]
    (simp (disch := omega) only [go_sem, ↓reduceIte, Nat.reduceEqDiff, Nat.reduceMul, Nat.reduceAdd, Nat.reduceSub, Nat.reduceLT, Nat.reduceGT, Nat.reduceLeDiff, Nat.reduceBEq, Int.reduceLT, Int.reduceLE, Int.reduceNe, Int.reduceEq, Int.reduceToNat, Int.reduceAdd, Int.reduceSub, Int.reduceMul, Int.reduceNeg, Nat.reducePow, Int.reducePow, Nat.reduceSubDiff, decide_true, decide_false, reduceCtorEq, or_self, or_false, false_or, or_true, true_or, if_false, gt_iff_lt, ge_iff_le, ne_eq, not_true_eq_false, not_false_eq_true, and_self, beq_self_eq_true, Bool.false_eq_true, List.append_assoc]; exact WkS.refl _)
  · rw [List.drop_of_length_le (Nat.le_refl _), rowT_nil, List.append_nil]
    refine run ?_
    exact r_end [0] []

set_option maxHeartbeats 4000000 in
theorem laws_szZoneS (k : Nat) (l : List ZoneV) (left : Int) (hpre : l.length ≤ 140737488351232 ∧ 0 ≤ left ∧ left ≤ 1048576) : CallsT Try.prog [] F.laws_szZoneS [.sl false k l.length 3 (rowT zoneC l), .v (.int .i64 left)] (.v (.int .i64 (cutI (left - l.length)))) [] := by
  refine fnT C.laws_szZoneS ?_
  obtain ⟨hb1, h0, h1⟩ := hpre
  refine run ?_
  refine r_ifd (fun h => ?_) (fun h => ?_)
  · rw [show cutI (left - l.length) = -1 from if_pos (by omega)]
    refine run ?_
    exact r_end [] []
  rw [show cutI (left - l.length) = left - l.length from if_neg (by omega)]
  refine run ?_
  exact r_end [] []
instance (k : Nat) (l : List ZoneV) (left : Int) : Con Try.prog F.laws_szZoneS [.sl false k l.length 3 (rowT zoneC l), .v (.int .i64 left)] (l.length ≤ 140737488351232 ∧ 0 ≤ left ∧ left ≤ 1048576) (.v (.int .i64 (cutI (left - l.length)))) [] := ⟨fun h => laws_szZoneS k l left h⟩

set_option maxHeartbeats 4000000 in
theorem laws_toZone (x0 x1 x2 : Int) : CallsT Try.prog [] F.laws_toZone [.agg [.v (.int .i64 x0), .v (.int .i64 x1), .v (.int .i64 x2)]] (.agg [.v (.int .i64 x0), .v (.int .i64 x1), .v (.int .i64 x2)]) [] := by
  refine fnT C.laws_toZone ?_
  refine run ?_
  exact r_end [] []
instance (x0 x1 x2 : Int) : Con Try.prog F.laws_toZone [.agg [.v (.int .i64 x0), .v (.int .i64 x1), .v (.int .i64 x2)]] True (.agg [.v (.int .i64 x0), .v (.int .i64 x1), .v (.int .i64 x2)]) [] := ⟨fun _ => laws_toZone x0 x1 x2⟩

@[go_sem] theorem mkR_Zo (n : Nat) : mkR [.v (.int .i64 0), .v (.int .i64 0), .v (.int .i64 0)] n = ((List.replicate n (default : ZoneV)).length, rowT zoneC (List.replicate n default)) := mkR_enc zoneC default n

set_option maxHeartbeats 4000000 in
theorem laws_toZoneS (k : Nat) (l : List ZoneV) (hpre : l.length * 24 ≤ 140737488351232) : CallsT Try.prog [] F.laws_toZoneS [.sl false k l.length 3 (rowT zoneC l)] (.sl false 0 l.length 3 (rowT zoneC l)) [] := by
  refine fnT C.laws_toZoneS ?_
  refine run ?_
  rw [List.length_replicate]
  refine r_for l.length (fun i => [(0, .sl false k l.length 3 (rowT zoneC l)), (3, .ref 0 [] 0 l.length), (4, .v (.int .i64 i))]) (fun i => [⟨3, true, rowT zoneC (l.take i ++ (List.replicate l.length default).drop i)⟩]) (fun _ => True) [0] [] trivial Gc.of (fun i hi _ => ?_) (fun _ => ?_)
  · refine run ?_
    refine r_sto (enc := zoneC) _ i (nth l i) ?_
    rw [set_mix hi (by simp)]
    refine run ?_
    exact ⟨[0], [], Gc.of, trivial⟩
  · rw [List.take_length, List.drop_of_length_le (by simp), List.append_nil]
    refine run ?_
    exact r_end [] [0]
instance (k : Nat) (l : List ZoneV) : Con Try.prog F.laws_toZoneS [.sl false k l.length 3 (rowT zoneC l)] (l.length * 24 ≤ 140737488351232) (.sl false 0 l.length 3 (rowT zoneC l)) [] := ⟨fun h => laws_toZoneS k l h⟩

theorem toZoneSO (k : Nat) (l : List ZoneV) (hpre : l.length * 24 ≤ 140737488351232) : CallsT Try.prog [] F.laws_toZoneS [.sl false k l.length 3 (rowT zoneC l)] (.ref 0 [] 0 l.length) [⟨3, true, rowT zoneC l⟩] := by
  refine fnT C.laws_toZoneS ?_
  refine run ?_
  rw [List.length_replicate]
  refine r_for l.length (fun i => [(0, .sl false k l.length 3 (rowT zoneC l)), (3, .ref 0 [] 0 l.length), (4, .v (.int .i64 i))]) (fun i => [⟨3, true, rowT zoneC (l.take i ++ (List.replicate l.length default).drop i)⟩]) (fun _ => True) [0] [] trivial Gc.of (fun i hi _ => ?_) (fun _ => ?_)
  · refine run ?_
    refine r_sto (enc := zoneC) _ i (nth l i) ?_
    rw [set_mix hi (by simp)]
    refine run ?_
    exact ⟨[0], [], Gc.of, trivial⟩
  · rw [List.take_length, List.drop_of_length_le (by simp), List.append_nil]
    refine run ?_
    exact r_end [0] []

set_option maxHeartbeats 4000000 in
theorem laws_eqZone (x0 x1 x2 : Int) : CallsT Try.prog [] F.laws_eqZone [.agg [.v (.int .i64 x0), .v (.int .i64 x1), .v (.int .i64 x2)], .agg [.v (.int .i64 x0), .v (.int .i64 x1), .v (.int .i64 x2)]] (.v (.bool true)) [] := by
  refine fnT C.laws_eqZone ?_
  refine run ?_
  exact r_end [] []
instance (x0 x1 x2 : Int) : Con Try.prog F.laws_eqZone [.agg [.v (.int .i64 x0), .v (.int .i64 x1), .v (.int .i64 x2)], .agg [.v (.int .i64 x0), .v (.int .i64 x1), .v (.int .i64 x2)]] True (.v (.bool true)) [] := ⟨fun _ => laws_eqZone x0 x1 x2⟩

set_option maxHeartbeats 4000000 in
theorem laws_eqZoneS (k k2 : Nat) (l : List ZoneV) (hpre : l.length ≤ 140737488351232) : CallsT Try.prog [] F.laws_eqZoneS [.sl false k l.length 3 (rowT zoneC l), .sl false k2 l.length 3 (rowT zoneC l)] (.v (.bool true)) [] := by
  refine fnT C.laws_eqZoneS ?_
  refine run ?_
  refine r_for l.length (fun i => [(0, .sl false k l.length 3 (rowT zoneC l)), (1, .sl false k2 l.length 3 (rowT zoneC l)), (5, .v (.int .i64 i))]) (fun _ => []) (fun _ => True) [] [] trivial Gc.of (fun i hi _ => ?_) (fun _ => ?_)
  · refine run ?_
    exact ⟨[], [], Gc.of, trivial⟩
  · refine run ?_
    exact r_end [] []
instance (k k2 : Nat) (l : List ZoneV) : Con Try.prog F.laws_eqZoneS [.sl false k l.length 3 (rowT zoneC l), .sl false k2 l.length 3 (rowT zoneC l)] (l.length ≤ 140737488351232) (.v (.bool true)) [] := ⟨fun h => laws_eqZoneS k k2 l h⟩

def markZo1 (k : Int) : ZoneV := ⟨k, k + 1, k + 1 + 1⟩
def marksZo (k : Int) (n : Nat) : List ZoneV := (List.range n).map fun (i : Nat) => markZo1 (k + 3 * (i : Int))
theorem marksZo_len (k : Int) (n : Nat) : (marksZo k n).length = n := by simp [marksZo]
theorem marksZo_s (k : Int) (n : Nat) : marksZo k (n + 1) = marksZo k n ++ [markZo1 (k + 3 * (n : Int))] := by simp [marksZo, List.range_succ]
theorem marksZo_nth (k : Int) (n i : Nat) (h : i < n) : nth (marksZo k n) (i : Nat) = markZo1 (k + 3 * (i : Int)) := by
  rw [nth_nat (by rw [marksZo_len]; exact h)]
  simp [marksZo]

set_option linter.unusedSimpArgs false in
theorem markZoneS1 (l : List ZoneV) (k : Int) (hk : 0 ≤ k) (hk2 : k + 3 * l.length ≤ 100000000) : CallsT Try.prog [⟨3, true, rowT zoneC l⟩] F.laws_markZoneS [.ref 0 [] 0 l.length, .v (.int .i64 k)] (.v (.int .i64 (k + 3 * l.length))) [⟨3, true, rowT zoneC (marksZo k l.length)⟩] := by
  refine fnT C.laws_markZoneS ?_
  refine run ?_
  refine r_for l.length (fun i => [(0, .ref 0 [] 0 l.length), (1, .v (.int .i64 (k + 3 * (i : Int)))), (5, .v (.int .i64 i))]) (fun i => [⟨3, true, rowT zoneC (marksZo k i) ++ rowT zoneC (l.drop i)⟩]) (fun _ => True) [0] [] trivial (Gc.of (hs := by simp only [marksZo, List.range_zero, List.map_nil, rowT_nil, List.nil_append, List.drop_zero, List.append_nil]; (simp (disch := omega) only [go_sem, ↓reduceIte, Nat.reduceEqDiff, Nat.reduceMul, Nat.reduceAdd, Nat.reduceSub, Nat.reduceLT, Nat.reduceGT, Nat.reduceLeDiff, Nat.reduceBEq, Int.reduceLT, Int.reduceLE, Int.reduceNe, Int.reduceEq, Int.reduceToNat, Int.reduceAdd, Int.reduceSub, Int.reduceMul, Int.reduceNeg, Nat.reducePow, Int.reducePow, Nat.reduceSubDiff, decide_true, decide_false, reduceCtorEq, or_self, or_false, false_or, or_true, true_or, if_false, gt_iff_lt, ge_iff_le, ne_eq, not_true_eq_false, not_false_eq_true, and_self, beq_self_eq_true, Bool.false_eq_true, List.append_assoc]; exact WkS.refl _))) (fun i hi _ => ?_) (fun _ => ?_)
  · have hml := marksZo_len k i
    rw [List.drop_eq_getElem_cons hi, rowT_cons, ← nth_nat hi]
    dsimp only [zoneC, List.cons_append, List.nil_append]
    have hend : rowT zoneC (marksZo k (i + 1)) = rowT zoneC (marksZo k i) ++ zoneC (markZo1 (k + 3 * (i : Int))) := by
      rw [marksZo_s, rowT_append, rowT_1]
    refine run ?_
    refine r_stw ?_
    refine run ?_
    refine r_stw ?_
    refine run ?_
    refine r_stw ?_
    refine run ?_
    refine ⟨[0], [], Gc.of (hs := ?_), trivial⟩
    rw [hend]
    simp only [markZo1, zoneC]
    (simp (disch := omega) only [go_sem, ↓reduceIte, Nat.reduceEqDiff, Nat.reduceMul, Nat.reduceAdd, Nat.reduceSub, Nat.reduceLT, Nat.reduceGT, Nat.reduceLeDiff, Nat.reduceBEq, Int.reduceLT, Int.reduceLE, Int.reduceNe, Int.reduceEq, Int.reduceToNat, Int.reduceAdd, Int.reduceSub, Int.reduceMul, Int.reduceNeg, Nat.reducePow, Int.reducePow, Nat.reduceSubDiff, decide_true, decide_false, reduceCtorEq, or_self, or_false, false_or, or_true, true_or, if_false, gt_iff_lt, ge_iff_le, ne_eq, not_true_eq_false, not_false_eq_true, and_self, beq_self_eq_true, Bool.false_eq_true, List.append_assoc]; exact WkS.refl _)
  · rw [List.drop_of_length_le (Nat.le_refl _), rowT_nil, List.append_nil]
    refine run ?_
    exact r_end [0] []

set_option maxHeartbeats 4000000 in
theorem laws_szLinkS (k : Nat) (l : List LinkV) (left : Int) (hpre : l.length ≤ 140737488351232 ∧ 0 ≤ left ∧ left ≤ 1048576) : CallsT Try.prog [] F.laws_szLinkS [.sl false k l.length 2 (rowT linkC l), .v (.int .i64 left)] (.v (.int .i64 (cutI (left - l.length)))) [] := by
  refine fnT C.laws_szLinkS ?_
  obtain ⟨hb1, h0, h1⟩ := hpre
  refine run ?_
  refine r_ifd (fun h => ?_) (fun h => ?_)
  · rw [show cutI (left - l.length) = -1 from if_pos (by omega)]
    refine run ?_
    exact r_end [] []
  rw [show cutI (left - l.length) = left - l.length from if_neg (by omega)]
  refine run ?_
  exact r_end [] []
instance (k : Nat) (l : List LinkV) (left : Int) : Con Try.prog F.laws_szLinkS [.sl false k l.length 2 (rowT linkC l), .v (.int .i64 left)] (l.length ≤ 140737488351232 ∧ 0 ≤ left ∧ left ≤ 1048576) (.v (.int .i64 (cutI (left - l.length)))) [] := ⟨fun h => laws_szLinkS k l left h⟩

set_option maxHeartbeats 4000000 in
theorem laws_toLink (x0 x1 : Int) : CallsT Try.prog [] F.laws_toLink [.agg [.v (.int .i64 x0), .v (.int .i64 x1)]] (.agg [.v (.int .i64 x0), .v (.int .i64 x1)]) [] := by
  refine fnT C.laws_toLink ?_
  refine run ?_
  exact r_end [] []
instance (x0 x1 : Int) : Con Try.prog F.laws_toLink [.agg [.v (.int .i64 x0), .v (.int .i64 x1)]] True (.agg [.v (.int .i64 x0), .v (.int .i64 x1)]) [] := ⟨fun _ => laws_toLink x0 x1⟩

@[go_sem] theorem mkR_Li (n : Nat) : mkR [.v (.int .i64 0), .v (.int .i64 0)] n = ((List.replicate n (default : LinkV)).length, rowT linkC (List.replicate n default)) := mkR_enc linkC default n

set_option maxHeartbeats 4000000 in
theorem laws_toLinkS (k : Nat) (l : List LinkV) (hpre : l.length * 16 ≤ 140737488351232) : CallsT Try.prog [] F.laws_toLinkS [.sl false k l.length 2 (rowT linkC l)] (.sl false 0 l.length 2 (rowT linkC l)) [] := by
  refine fnT C.laws_toLinkS ?_
  refine run ?_
  rw [List.length_replicate]
  refine r_for l.length (fun i => [(0, .sl false k l.length 2 (rowT linkC l)), (3, .ref 0 [] 0 l.length), (4, .v (.int .i64 i))]) (fun i => [⟨2, true, rowT linkC (l.take i ++ (List.replicate l.length default).drop i)⟩]) (fun _ => True) [0] [] trivial Gc.of (fun i hi _ => ?_) (fun _ => ?_)
  · refine run ?_
    refine r_sto (enc := linkC) _ i (nth l i) ?_
    rw [set_mix hi (by simp)]
    refine run ?_
    exact ⟨[0], [], Gc.of, trivial⟩
  · rw [List.take_length, List.drop_of_length_le (by simp), List.append_nil]
    refine run ?_
    exact r_end [] [0]
instance (k : Nat) (l : List LinkV) : Con Try.prog F.laws_toLinkS [.sl false k l.length 2 (rowT linkC l)] (l.length * 16 ≤ 140737488351232) (.sl false 0 l.length 2 (rowT linkC l)) [] := ⟨fun h => laws_toLinkS k l h⟩

theorem toLinkSO (k : Nat) (l : List LinkV) (hpre : l.length * 16 ≤ 140737488351232) : CallsT Try.prog [] F.laws_toLinkS [.sl false k l.length 2 (rowT linkC l)] (.ref 0 [] 0 l.length) [⟨2, true, rowT linkC l⟩] := by
  refine fnT C.laws_toLinkS ?_
  refine run ?_
  rw [List.length_replicate]
  refine r_for l.length (fun i => [(0, .sl false k l.length 2 (rowT linkC l)), (3, .ref 0 [] 0 l.length), (4, .v (.int .i64 i))]) (fun i => [⟨2, true, rowT linkC (l.take i ++ (List.replicate l.length default).drop i)⟩]) (fun _ => True) [0] [] trivial Gc.of (fun i hi _ => ?_) (fun _ => ?_)
  · refine run ?_
    refine r_sto (enc := linkC) _ i (nth l i) ?_
    rw [set_mix hi (by simp)]
    refine run ?_
    exact ⟨[0], [], Gc.of, trivial⟩
  · rw [List.take_length, List.drop_of_length_le (by simp), List.append_nil]
    refine run ?_
    exact r_end [0] []

set_option maxHeartbeats 4000000 in
theorem laws_eqLink (x0 x1 : Int) : CallsT Try.prog [] F.laws_eqLink [.agg [.v (.int .i64 x0), .v (.int .i64 x1)], .agg [.v (.int .i64 x0), .v (.int .i64 x1)]] (.v (.bool true)) [] := by
  refine fnT C.laws_eqLink ?_
  refine run ?_
  exact r_end [] []
instance (x0 x1 : Int) : Con Try.prog F.laws_eqLink [.agg [.v (.int .i64 x0), .v (.int .i64 x1)], .agg [.v (.int .i64 x0), .v (.int .i64 x1)]] True (.v (.bool true)) [] := ⟨fun _ => laws_eqLink x0 x1⟩

set_option maxHeartbeats 4000000 in
theorem laws_eqLinkS (k k2 : Nat) (l : List LinkV) (hpre : l.length ≤ 140737488351232) : CallsT Try.prog [] F.laws_eqLinkS [.sl false k l.length 2 (rowT linkC l), .sl false k2 l.length 2 (rowT linkC l)] (.v (.bool true)) [] := by
  refine fnT C.laws_eqLinkS ?_
  refine run ?_
  refine r_for l.length (fun i => [(0, .sl false k l.length 2 (rowT linkC l)), (1, .sl false k2 l.length 2 (rowT linkC l)), (5, .v (.int .i64 i))]) (fun _ => []) (fun _ => True) [] [] trivial Gc.of (fun i hi _ => ?_) (fun _ => ?_)
  · refine run ?_
    exact ⟨[], [], Gc.of, trivial⟩
  · refine run ?_
    exact r_end [] []
instance (k k2 : Nat) (l : List LinkV) : Con Try.prog F.laws_eqLinkS [.sl false k l.length 2 (rowT linkC l), .sl false k2 l.length 2 (rowT linkC l)] (l.length ≤ 140737488351232) (.v (.bool true)) [] := ⟨fun h => laws_eqLinkS k k2 l h⟩

def markLi1 (k : Int) : LinkV := ⟨k, k + 1⟩
def marksLi (k : Int) (n : Nat) : List LinkV := (List.range n).map fun (i : Nat) => markLi1 (k + 2 * (i : Int))
theorem marksLi_len (k : Int) (n : Nat) : (marksLi k n).length = n := by simp [marksLi]
theorem marksLi_s (k : Int) (n : Nat) : marksLi k (n + 1) = marksLi k n ++ [markLi1 (k + 2 * (n : Int))] := by simp [marksLi, List.range_succ]
theorem marksLi_nth (k : Int) (n i : Nat) (h : i < n) : nth (marksLi k n) (i : Nat) = markLi1 (k + 2 * (i : Int)) := by
  rw [nth_nat (by rw [marksLi_len]; exact h)]
  simp [marksLi]

set_option linter.unusedSimpArgs false in
theorem markLinkS1 (l : List LinkV) (k : Int) (hk : 0 ≤ k) (hk2 : k + 2 * l.length ≤ 100000000) : CallsT Try.prog [⟨2, true, rowT linkC l⟩] F.laws_markLinkS [.ref 0 [] 0 l.length, .v (.int .i64 k)] (.v (.int .i64 (k + 2 * l.length))) [⟨2, true, rowT linkC (marksLi k l.length)⟩] := by
  refine fnT C.laws_markLinkS ?_
  refine run ?_
  refine r_for l.length (fun i => [(0, .ref 0 [] 0 l.length), (1, .v (.int .i64 (k + 2 * (i : Int)))), (5, .v (.int .i64 i))]) (fun i => [⟨2, true, rowT linkC (marksLi k i) ++ rowT linkC (l.drop i)⟩]) (fun _ => True) [0] [] trivial (Gc.of (hs := by simp only [marksLi, List.range_zero, List.map_nil, rowT_nil, List.nil_append, List.drop_zero, List.append_nil]; (simp (disch := omega) only [go_sem, ↓reduceIte, Nat.reduceEqDiff, Nat.reduceMul, Nat.reduceAdd, Nat.reduceSub, Nat.reduceLT, Nat.reduceGT, Nat.reduceLeDiff, Nat.reduceBEq, Int.reduceLT, Int.reduceLE, Int.reduceNe, Int.reduceEq, Int.reduceToNat, Int.reduceAdd, Int.reduceSub, Int.reduceMul, Int.reduceNeg, Nat.reducePow, Int.reducePow, Nat.reduceSubDiff, decide_true, decide_false, reduceCtorEq, or_self, or_false, false_or, or_true, true_or, if_false, gt_iff_lt, ge_iff_le, ne_eq, not_true_eq_false, not_false_eq_true, and_self, beq_self_eq_true, Bool.false_eq_true, List.append_assoc]; exact WkS.refl _))) (fun i hi _ => ?_) (fun _ => ?_)
  · have hml := marksLi_len k i
    rw [List.drop_eq_getElem_cons hi, rowT_cons, ← nth_nat hi]
    dsimp only [linkC, List.cons_append, List.nil_append]
    have hend : rowT linkC (marksLi k (i + 1)) = rowT linkC (marksLi k i) ++ linkC (markLi1 (k + 2 * (i : Int))) := by
      rw [marksLi_s, rowT_append, rowT_1]
    refine run ?_
    refine r_stw ?_
    refine run ?_
    refine r_stw ?_
    refine run ?_
    refine ⟨[0], [], Gc.of (hs := ?_), trivial⟩
    rw [hend]
    simp only [markLi1, linkC]
    (simp (disch := omega) only [go_sem, ↓reduceIte, Nat.reduceEqDiff, Nat.reduceMul, Nat.reduceAdd, Nat.reduceSub, Nat.reduceLT, Nat.reduceGT, Nat.reduceLeDiff, Nat.reduceBEq, Int.reduceLT, Int.reduceLE, Int.reduceNe, Int.reduceEq, Int.reduceToNat, Int.reduceAdd, Int.reduceSub, Int.reduceMul, Int.reduceNeg, Nat.reducePow, Int.reducePow, Nat.reduceSubDiff, decide_true, decide_false, reduceCtorEq, or_self, or_false, false_or, or_true, true_or, if_false, gt_iff_lt, ge_iff_le, ne_eq, not_true_eq_false, not_false_eq_true, and_self, beq_self_eq_true, Bool.false_eq_true, List.append_assoc]; exact WkS.refl _)
  · rw [List.drop_of_length_le (Nat.le_refl _), rowT_nil, List.append_nil]
    refine run ?_
    exact r_end [0] []

set_option maxHeartbeats 4000000 in
theorem laws_eqShift (x0 x1 : Int) : CallsT Try.prog [] F.laws_eqShift [.agg [.v (.int .i64 x0), .v (.int .i64 x1)], .agg [.v (.int .i64 x0), .v (.int .i64 x1)]] (.v (.bool true)) [] := by
  refine fnT C.laws_eqShift ?_
  refine run ?_
  exact r_end [] []
instance (x0 x1 : Int) : Con Try.prog F.laws_eqShift [.agg [.v (.int .i64 x0), .v (.int .i64 x1)], .agg [.v (.int .i64 x0), .v (.int .i64 x1)]] True (.v (.bool true)) [] := ⟨fun _ => laws_eqShift x0 x1⟩

set_option maxHeartbeats 4000000 in
theorem laws_eqShiftS (k k2 : Nat) (l : List ShiftV) (hpre : l.length ≤ 140737488351232) : CallsT Try.prog [] F.laws_eqShiftS [.sl false k l.length 2 (rowT shiftC l), .sl false k2 l.length 2 (rowT shiftC l)] (.v (.bool true)) [] := by
  refine fnT C.laws_eqShiftS ?_
  refine run ?_
  refine r_for l.length (fun i => [(0, .sl false k l.length 2 (rowT shiftC l)), (1, .sl false k2 l.length 2 (rowT shiftC l)), (5, .v (.int .i64 i))]) (fun _ => []) (fun _ => True) [] [] trivial Gc.of (fun i hi _ => ?_) (fun _ => ?_)
  · refine run ?_
    exact ⟨[], [], Gc.of, trivial⟩
  · refine run ?_
    exact r_end [] []
instance (k k2 : Nat) (l : List ShiftV) : Con Try.prog F.laws_eqShiftS [.sl false k l.length 2 (rowT shiftC l), .sl false k2 l.length 2 (rowT shiftC l)] (l.length ≤ 140737488351232) (.v (.bool true)) [] := ⟨fun h => laws_eqShiftS k k2 l h⟩

def markSh1 (k : Int) : ShiftV := ⟨k, k + 1⟩
def marksSh (k : Int) (n : Nat) : List ShiftV := (List.range n).map fun (i : Nat) => markSh1 (k + 2 * (i : Int))
theorem marksSh_len (k : Int) (n : Nat) : (marksSh k n).length = n := by simp [marksSh]
theorem marksSh_s (k : Int) (n : Nat) : marksSh k (n + 1) = marksSh k n ++ [markSh1 (k + 2 * (n : Int))] := by simp [marksSh, List.range_succ]
theorem marksSh_nth (k : Int) (n i : Nat) (h : i < n) : nth (marksSh k n) (i : Nat) = markSh1 (k + 2 * (i : Int)) := by
  rw [nth_nat (by rw [marksSh_len]; exact h)]
  simp [marksSh]

set_option linter.unusedSimpArgs false in
theorem markShiftS1 (l : List ShiftV) (k : Int) (hk : 0 ≤ k) (hk2 : k + 2 * l.length ≤ 100000000) : CallsT Try.prog [⟨2, true, rowT shiftC l⟩] F.laws_markShiftS [.ref 0 [] 0 l.length, .v (.int .i64 k)] (.v (.int .i64 (k + 2 * l.length))) [⟨2, true, rowT shiftC (marksSh k l.length)⟩] := by
  refine fnT C.laws_markShiftS ?_
  refine run ?_
  refine r_for l.length (fun i => [(0, .ref 0 [] 0 l.length), (1, .v (.int .i64 (k + 2 * (i : Int)))), (5, .v (.int .i64 i))]) (fun i => [⟨2, true, rowT shiftC (marksSh k i) ++ rowT shiftC (l.drop i)⟩]) (fun _ => True) [0] [] trivial (Gc.of (hs := by simp only [marksSh, List.range_zero, List.map_nil, rowT_nil, List.nil_append, List.drop_zero, List.append_nil]; (simp (disch := omega) only [go_sem, ↓reduceIte, Nat.reduceEqDiff, Nat.reduceMul, Nat.reduceAdd, Nat.reduceSub, Nat.reduceLT, Nat.reduceGT, Nat.reduceLeDiff, Nat.reduceBEq, Int.reduceLT, Int.reduceLE, Int.reduceNe, Int.reduceEq, Int.reduceToNat, Int.reduceAdd, Int.reduceSub, Int.reduceMul, Int.reduceNeg, Nat.reducePow, Int.reducePow, Nat.reduceSubDiff, decide_true, decide_false, reduceCtorEq, or_self, or_false, false_or, or_true, true_or, if_false, gt_iff_lt, ge_iff_le, ne_eq, not_true_eq_false, not_false_eq_true, and_self, beq_self_eq_true, Bool.false_eq_true, List.append_assoc]; exact WkS.refl _))) (fun i hi _ => ?_) (fun _ => ?_)
  · have hml := marksSh_len k i
    rw [List.drop_eq_getElem_cons hi, rowT_cons, ← nth_nat hi]
    dsimp only [shiftC, List.cons_append, List.nil_append]
    have hend : rowT shiftC (marksSh k (i + 1)) = rowT shiftC (marksSh k i) ++ shiftC (markSh1 (k + 2 * (i : Int))) := by
      rw [marksSh_s, rowT_append, rowT_1]
    refine run ?_
    refine r_stw ?_
    refine run ?_
    refine r_stw ?_
    refine run ?_
    refine ⟨[0], [], Gc.of (hs := ?_), trivial⟩
    rw [hend]
    simp only [markSh1, shiftC]
    (simp (disch := omega) only [go_sem, ↓reduceIte, Nat.reduceEqDiff, Nat.reduceMul, Nat.reduceAdd, Nat.reduceSub, Nat.reduceLT, Nat.reduceGT, Nat.reduceLeDiff, Nat.reduceBEq, Int.reduceLT, Int.reduceLE, Int.reduceNe, Int.reduceEq, Int.reduceToNat, Int.reduceAdd, Int.reduceSub, Int.reduceMul, Int.reduceNeg, Nat.reducePow, Int.reducePow, Nat.reduceSubDiff, decide_true, decide_false, reduceCtorEq, or_self, or_false, false_or, or_true, true_or, if_false, gt_iff_lt, ge_iff_le, ne_eq, not_true_eq_false, not_false_eq_true, and_self, beq_self_eq_true, Bool.false_eq_true, List.append_assoc]; exact WkS.refl _)
  · rw [List.drop_of_length_le (Nat.le_refl _), rowT_nil, List.append_nil]
    refine run ?_
    exact r_end [0] []

set_option maxHeartbeats 4000000 in
theorem laws_heldShiftS (q : Nat) (k : Int) (n : Nat) (hpre : 0 ≤ k ∧ k + 2 * n ≤ 100000000) : CallsT Try.prog [] F.laws_heldShiftS [.sl false q n 2 (rowT shiftC (marksSh k n)), .v (.int .i64 k)] (.v (.int .i64 (k + 2 * n))) [] := by
  refine fnT C.laws_heldShiftS ?_
  obtain ⟨h0, h1⟩ := hpre
  have hl := marksSh_len k n
  generalize hM : marksSh k n = M at *
  subst hl
  refine run ?_
  refine r_for M.length (fun i => [(0, .sl false q M.length 2 (rowT shiftC M)), (1, .v (.int .i64 (k + 2 * (i : Nat)))), (5, .v (.int .i64 i))]) (fun _ => []) (fun _ => True) [] [] trivial Gc.of (fun i hi _ => ?_) (fun _ => ?_)
  · have hx := marksSh_nth k M.length i hi
    rw [hM] at hx
    have x1 : (nth M (i : Nat)).at' = k + 2 * (i : Int) := by rw [hx]; rfl
    have x2 : (nth M (i : Nat)).off = k + 2 * (i : Int) + 1 := by rw [hx]; rfl
    clear hx
    refine run ?_
    exact ⟨[], [], Gc.of, trivial⟩
  · refine run ?_
    exact r_end [] []
instance (q : Nat) (k : Int) (n : Nat) : Con Try.prog F.laws_heldShiftS [.sl false q n 2 (rowT shiftC (marksSh k n)), .v (.int .i64 k)] (0 ≤ k ∧ k + 2 * n ≤ 100000000) (.v (.int .i64 (k + 2 * n))) [] := ⟨fun h => laws_heldShiftS q k n h⟩

set_option maxHeartbeats 4000000 in
theorem laws_heldTable (q : Nat) (f k : Int) (n : Nat) (hpre : 0 ≤ k ∧ k + 2 * n ≤ 100000000) : CallsT Try.prog [] F.laws_heldTable [.agg [.v (.int .i64 f), .sl false q n 2 (rowT shiftC (marksSh k n))], .v (.int .i64 k)] (.v (.int .i64 (k + 2 * n))) [] := by
  refine fnT C.laws_heldTable ?_
  obtain ⟨h0, h1⟩ := hpre
  refine run ?_
  exact r_end [] []
instance (q : Nat) (f k : Int) (n : Nat) : Con Try.prog F.laws_heldTable [.agg [.v (.int .i64 f), .sl false q n 2 (rowT shiftC (marksSh k n))], .v (.int .i64 k)] (0 ≤ k ∧ k + 2 * n ≤ 100000000) (.v (.int .i64 (k + 2 * n))) [] := ⟨fun h => laws_heldTable q f k n h⟩

set_option maxHeartbeats 4000000 in
theorem laws_eqTable (k k2 : Nat) (f : Int) (l : List ShiftV) (hpre : l.length ≤ 140737488351232) : CallsT Try.prog [] F.laws_eqTable [.agg [.v (.int .i64 f), .sl false k l.length 2 (rowT shiftC l)], .agg [.v (.int .i64 f), .sl false k2 l.length 2 (rowT shiftC l)]] (.v (.bool true)) [] := by
  refine fnT C.laws_eqTable ?_
  refine run ?_
  exact r_end [] []
instance (k k2 : Nat) (f : Int) (l : List ShiftV) : Con Try.prog F.laws_eqTable [.agg [.v (.int .i64 f), .sl false k l.length 2 (rowT shiftC l)], .agg [.v (.int .i64 f), .sl false k2 l.length 2 (rowT shiftC l)]] (l.length ≤ 140737488351232) (.v (.bool true)) [] := ⟨fun h => laws_eqTable k k2 f l h⟩

theorem markTable1 (f : Int) (l : List ShiftV) (k : Int) (hk : 0 ≤ k) (hk2 : k + 2 * l.length ≤ 100000000) : CallsT Try.prog [⟨2, true, rowT shiftC l⟩] F.laws_markTable [.agg [.v (.int .i64 f), .ref 0 [] 0 l.length], .v (.int .i64 k)] (.v (.int .i64 (k + 2 * l.length))) [⟨2, true, rowT shiftC (marksSh k l.length)⟩] := by
  refine fnT C.laws_markTable ?_
  refine runC ?_
  refine r_calln [0] (markShiftS1 l k hk hk2) ?_
  refine run ?_
  exact r_end [0] []
theorem markShiftS0 (k : Int) (q : Nat) : CallsT Try.prog [] F.laws_markShiftS [.sl false q 0 2 [], .v (.int .i64 k)] (.v (.int .i64 k)) [] := by
  refine fnT C.laws_markShiftS ?_
  refine run ?_
  refine r_for 0 (fun i => [(0, .sl false q 0 2 []), (1, .v (.int .i64 k)), (5, .v (.int .i64 i))]) (fun _ => []) (fun _ => True) [] [] trivial Gc.of (fun i hi _ => absurd hi (Nat.not_lt_zero _)) (fun _ => ?_)
  refine run ?_
  exact r_end [] []
theorem markTable0 (f k : Int) (q : Nat) : CallsT Try.prog [] F.laws_markTable [.agg [.v (.int .i64 f), .sl false q 0 2 []], .v (.int .i64 k)] (.v (.int .i64 k)) [] := by
  refine fnT C.laws_markTable ?_
  refine runC ?_
  refine r_callp true (markShiftS0 k 1) ?_
  refine run ?_
  exact r_end [] []
theorem heldTable0 (f k : Int) (q : Nat) (hk : 0 ≤ k ∧ k ≤ 1000) : CallsT Try.prog [] F.laws_heldTable [.agg [.v (.int .i64 f), .sl false q 0 2 []], .v (.int .i64 k)] (.v (.int .i64 k)) [] := by
  have := laws_heldTable q f k 0 ⟨by omega, by omega⟩
  rw [show k + 2 * ((0 : Nat) : Int) = k by omega] at this
  exact this
theorem eqTable0 (f : Int) (k k2 : Nat) : CallsT Try.prog [] F.laws_eqTable [.agg [.v (.int .i64 f), .sl false k 0 2 []], .agg [.v (.int .i64 f), .sl false k2 0 2 []]] (.v (.bool true)) [] := laws_eqTable k k2 f [] (by simp)

set_option maxHeartbeats 4000000 in
theorem laws_szSource (k0 k1 k2 : Nat) (rules : List RuleV) (zones : List ZoneV) (links : List LinkV) (left : Int) (hpre : (rules.length * 72 ≤ 140737488351232 ∧ zones.length * 24 ≤ 140737488351232 ∧ links.length * 16 ≤ 140737488351232) ∧ 0 ≤ left ∧ left ≤ 1048576) : CallsT Try.prog [] F.laws_szSource [.agg [.sl false k0 rules.length 9 (rowT ruleC rules), .sl false k1 zones.length 3 (rowT zoneC zones), .sl false k2 links.length 2 (rowT linkC links)], .v (.int .i64 left)] (.v (.int .i64 (cutI (left - (rules.length + zones.length + links.length))))) [] := by
  refine fnT C.laws_szSource ?_
  obtain ⟨⟨b0, b1, b2⟩, h0, h1⟩ := hpre
  refine run ?_
  refine r_ifd (fun h => ?_) (fun h => ?_)
  · have h := cutI_neg h
    rw [show cutI (left - (rules.length + zones.length + links.length)) = -1 from if_pos (by omega)]
    refine run ?_
    exact r_end [] []
  obtain ⟨e0, h⟩ := cutI_nn h
  rw [e0]
  refine run ?_
  refine r_ifd (fun h => ?_) (fun h => ?_)
  · have h := cutI_neg h
    rw [show cutI (left - (rules.length + zones.length + links.length)) = -1 from if_pos (by omega)]
    refine run ?_
    exact r_end [] []
  obtain ⟨e1, h⟩ := cutI_nn h
  rw [e1]
  refine run ?_
  refine r_ifd (fun h => ?_) (fun h => ?_)
  · have h := cutI_neg h
    rw [show cutI (left - (rules.length + zones.length + links.length)) = -1 from if_pos (by omega)]
    refine run ?_
    exact r_end [] []
  obtain ⟨e2, h⟩ := cutI_nn h
  rw [show cutI (left - (rules.length + zones.length + links.length)) = left - rules.length - zones.length - links.length by unfold cutI; rw [if_neg (by omega)]; omega]
  rw [e2]
  refine run ?_
  exact r_end [] []
instance (k0 k1 k2 : Nat) (rules : List RuleV) (zones : List ZoneV) (links : List LinkV) (left : Int) : Con Try.prog F.laws_szSource [.agg [.sl false k0 rules.length 9 (rowT ruleC rules), .sl false k1 zones.length 3 (rowT zoneC zones), .sl false k2 links.length 2 (rowT linkC links)], .v (.int .i64 left)] ((rules.length * 72 ≤ 140737488351232 ∧ zones.length * 24 ≤ 140737488351232 ∧ links.length * 16 ≤ 140737488351232) ∧ 0 ≤ left ∧ left ≤ 1048576) (.v (.int .i64 (cutI (left - (rules.length + zones.length + links.length))))) [] := ⟨fun h => laws_szSource k0 k1 k2 rules zones links left h⟩

set_option maxHeartbeats 4000000 in
theorem laws_toSource (k0 k1 k2 : Nat) (rules : List RuleV) (zones : List ZoneV) (links : List LinkV) (hpre : rules.length * 72 ≤ 140737488351232 ∧ zones.length * 24 ≤ 140737488351232 ∧ links.length * 16 ≤ 140737488351232) : CallsT Try.prog [] F.laws_toSource [.agg [.sl false k0 rules.length 9 (rowT ruleC rules), .sl false k1 zones.length 3 (rowT zoneC zones), .sl false k2 links.length 2 (rowT linkC links)]] (.agg [.sl false 0 rules.length 9 (rowT ruleC rules), .sl false 0 zones.length 3 (rowT zoneC zones), .sl false 0 links.length 2 (rowT linkC links)]) [] := by
  refine fnT C.laws_toSource ?_
  obtain ⟨b0, b1, b2⟩ := hpre
  refine run ?_
  exact r_end [] []
instance (k0 k1 k2 : Nat) (rules : List RuleV) (zones : List ZoneV) (links : List LinkV) : Con Try.prog F.laws_toSource [.agg [.sl false k0 rules.length 9 (rowT ruleC rules), .sl false k1 zones.length 3 (rowT zoneC zones), .sl false k2 links.length 2 (rowT linkC links)]] (rules.length * 72 ≤ 140737488351232 ∧ zones.length * 24 ≤ 140737488351232 ∧ links.length * 16 ≤ 140737488351232) (.agg [.sl false 0 rules.length 9 (rowT ruleC rules), .sl false 0 zones.length 3 (rowT zoneC zones), .sl false 0 links.length 2 (rowT linkC links)]) [] := ⟨fun h => laws_toSource k0 k1 k2 rules zones links h⟩

theorem toSourceO (k0 k1 k2 : Nat) (rules : List RuleV) (zones : List ZoneV) (links : List LinkV) (hpre : rules.length * 72 ≤ 140737488351232 ∧ zones.length * 24 ≤ 140737488351232 ∧ links.length * 16 ≤ 140737488351232) : CallsT Try.prog [] F.laws_toSource [.agg [.sl false k0 rules.length 9 (rowT ruleC rules), .sl false k1 zones.length 3 (rowT zoneC zones), .sl false k2 links.length 2 (rowT linkC links)]] (.agg [.ref 0 [] 0 rules.length, .ref 1 [] 0 zones.length, .ref 2 [] 0 links.length]) [⟨9, true, rowT ruleC rules⟩, ⟨3, true, rowT zoneC zones⟩, ⟨2, true, rowT linkC links⟩] := by
  obtain ⟨b0, b1, b2⟩ := hpre
  refine fnT C.laws_toSource ?_
  refine runC ?_
  refine r_callp true (toRuleSO _ _ b0) ?_
  refine runC ?_
  refine r_callp true (toZoneSO _ _ b1) ?_
  refine runC ?_
  refine r_callp true (toLinkSO _ _ b2) ?_
  refine run ?_
  exact r_end [3, 4, 5] []

set_option maxHeartbeats 4000000 in
theorem laws_eqSource (k0 k1 k2 q0 q1 q2 : Nat) (rules : List RuleV) (zones : List ZoneV) (links : List LinkV) (hpre : rules.length ≤ 140737488351232 ∧ zones.length ≤ 140737488351232 ∧ links.length ≤ 140737488351232) : CallsT Try.prog [] F.laws_eqSource [.agg [.sl false k0 rules.length 9 (rowT ruleC rules), .sl false k1 zones.length 3 (rowT zoneC zones), .sl false k2 links.length 2 (rowT linkC links)], .agg [.sl false q0 rules.length 9 (rowT ruleC rules), .sl false q1 zones.length 3 (rowT zoneC zones), .sl false q2 links.length 2 (rowT linkC links)]] (.v (.bool true)) [] := by
  refine fnT C.laws_eqSource ?_
  obtain ⟨b0, b1, b2⟩ := hpre
  refine run ?_
  exact r_end [] []
instance (k0 k1 k2 q0 q1 q2 : Nat) (rules : List RuleV) (zones : List ZoneV) (links : List LinkV) : Con Try.prog F.laws_eqSource [.agg [.sl false k0 rules.length 9 (rowT ruleC rules), .sl false k1 zones.length 3 (rowT zoneC zones), .sl false k2 links.length 2 (rowT linkC links)], .agg [.sl false q0 rules.length 9 (rowT ruleC rules), .sl false q1 zones.length 3 (rowT zoneC zones), .sl false q2 links.length 2 (rowT linkC links)]] (rules.length ≤ 140737488351232 ∧ zones.length ≤ 140737488351232 ∧ links.length ≤ 140737488351232) (.v (.bool true)) [] := ⟨fun h => laws_eqSource k0 k1 k2 q0 q1 q2 rules zones links h⟩

theorem markSource1 (rules : List RuleV) (zones : List ZoneV) (links : List LinkV) (k : Int) (hk : 0 ≤ k) (hk2 : k + 9 * rules.length + 3 * zones.length + 2 * links.length ≤ 100000000) : CallsT Try.prog [⟨9, true, rowT ruleC rules⟩, ⟨3, true, rowT zoneC zones⟩, ⟨2, true, rowT linkC links⟩] F.laws_markSource [.agg [.ref 0 [] 0 rules.length, .ref 1 [] 0 zones.length, .ref 2 [] 0 links.length], .v (.int .i64 k)] (.v (.int .i64 (k + 9 * rules.length + 3 * zones.length + 2 * links.length))) [⟨9, true, rowT ruleC (marksRu k rules.length)⟩, ⟨3, true, rowT zoneC (marksZo (k + 9 * rules.length) zones.length)⟩, ⟨2, true, rowT linkC (marksLi (k + 9 * rules.length + 3 * zones.length) links.length)⟩] := by
  refine fnT C.laws_markSource ?_
  refine runC ?_
  refine r_calln [0] (markRuleS1 rules k hk (by omega)) ?_
  refine runC ?_
  refine r_calln [1] (markZoneS1 zones (k + 9 * rules.length) (by omega) (by omega)) ?_
  refine runC ?_
  refine r_calln [2] (markLinkS1 links (k + 9 * rules.length + 3 * zones.length) (by omega) (by omega)) ?_
  refine run ?_
  exact r_end [0, 1, 2] []

end Go.TL
