/- Rolls of one's own: made, marked, held. No conditions but those that are written. -/
import Derived.Test.YthkahdjgkcccgaaK1
import Derived.Test.YthkahdjgkcccgaaM0
namespace Go.TL
set_option linter.unusedSimpArgs false
open Go.Proofs Go.RowKit
attribute [local irreducible] wpOpsT wpT EndT Ex.seq Ex.block W

theorem toRelO (k0 : Nat) (no size : Int) (dig : ByteArray) (ready : List Int) (state : Int) (hpre : bndRel dig ready) : CallsT Try.prog [] F.laws_toRel [.agg [.v (.int .i64 no), .v (.int .i64 size), .v (.string dig), .sl false k0 ready.length 1 (rowT i64C ready), .v (.int .i64 state)]] (.agg [.v (.int .i64 no), .v (.int .i64 size), .v (.string dig), .ref 0 [] 0 ready.length, .v (.int .i64 state)]) [⟨1, true, rowT i64C ready⟩] := by
  obtain ⟨hb0, hb1⟩ := hpre
  refine fnT C.laws_toRel ?_
  refine runC ?_
  refine r_callp true (toIntSO _ _ hb1) ?_
  refine run ?_
  exact r_end [3] []

set_option linter.unusedSimpArgs false in
theorem toRelSO (k : Nat) (l : List RelV) (hpre : bndRelS l) : CallsT Try.prog [] F.laws_toRelS [.sl false k l.length 5 (rowT relC l)] (.ref 0 [] 0 l.length) [⟨5, true, rowT relO l⟩] := by
  obtain ⟨hb1, hb2⟩ := hpre
  refine fnT C.laws_toRelS ?_
  refine run ?_
  rw [List.length_replicate]
  refine r_for l.length (fun i => [(0, .sl false k l.length 5 (rowT relC l)), (3, .ref 0 [] 0 l.length), (4, .v (.int .i64 i))]) (fun i => [⟨5, true, rowT relO (l.take i) ++ rowT zRelC (List.replicate (l.length - i) ())⟩]) (fun _ => True) [0] [] trivial Gc.of (fun i hi _ => ?_) (fun _ => ?_)
  · have hs1 : bndRel (nth l i).dig (nth l i).ready := hb2 _ (nth_mem hi)
    have ht : (l.take i).length = i := by rw [List.length_take]; omega
    obtain ⟨m, hm⟩ : ∃ m, l.length - i = m + 1 := ⟨l.length - i - 1, by omega⟩
    have hm' : l.length - (i + 1) = m := by omega
    rw [hm, List.replicate_succ, rowT_cons]
    dsimp only [zRelC, List.cons_append, List.nil_append]
    refine runC ?_
    refine r_callp true (toRelO 1 (nth l i).no (nth l i).size (nth l i).dig (nth l i).ready (nth l i).state hs1) ?_
    refine run ?_
    refine r_stw ?_
    refine run ?_
    refine ⟨[2], [.nest 0 [] (i * 5 + 3) 1], Gc.of (hs := by rw [hm', take_nth hi, rowT_append, rowT_1]; (simp (disch := omega) only [go_sem, ↓reduceIte, Nat.reduceEqDiff, Nat.reduceMul, Nat.reduceAdd, Nat.reduceSub, Nat.reduceLT, Nat.reduceGT, Nat.reduceLeDiff, Nat.reduceBEq, Int.reduceLT, Int.reduceLE, Int.reduceNe, Int.reduceEq, Int.reduceToNat, Int.reduceAdd, Int.reduceSub, Int.reduceMul, Int.reduceNeg, Nat.reducePow, Int.reducePow, Nat.reduceSubDiff, decide_true, decide_false, reduceCtorEq, or_self, or_false, false_or, or_true, true_or, if_false, gt_iff_lt, ge_iff_le, ne_eq, not_true_eq_false, not_false_eq_true, and_self, beq_self_eq_true, Bool.false_eq_true, List.append_assoc]; exact WkS.refl _)), trivial⟩
  · rw [List.take_length, Nat.sub_self, List.replicate_zero, rowT_nil, List.append_nil]
    refine run ?_
    exact r_end [0] []

theorem toRollO (k0 k1 : Nat) (of : Int) (rels : List RelV) (act : Int) (order : List Int) (hpre : bndRoll rels order) : CallsT Try.prog [] F.laws_toRoll [.agg [.v (.int .i64 of), .sl false k0 rels.length 5 (rowT relC rels), .v (.int .i64 act), .sl false k1 order.length 1 (rowT i64C order)]] (.agg [.v (.int .i64 of), rowR 5 0 rels, .v (.int .i64 act), rowR 1 1 order]) [⟨5, !rels.isEmpty, rowT relO rels⟩, ⟨1, !order.isEmpty, rowT i64C order⟩] := by
  obtain ⟨hb0, hb1⟩ := hpre
  refine fnT C.laws_toRoll ?_
  refine runC ?_
  refine r_callp true (toRelSO _ _ hb0) ?_
  refine runC ?_
  refine r_callp true (toIntSO _ _ hb1) ?_
  refine run ?_
  exact r_end [3, 4] [.sealR 3, .sealR 4]

/-- A release that a law marks from k on; how far the numbers go. -/
def markRel1 (k : Int) (x : RelV) : RelV := ⟨k, k + 1, mT (k + 1 + 1), marksI (k + 1 + 1 + 1) x.ready.length, k + 1 + 1 + 1 + x.ready.length⟩
def costRel (x : RelV) : Int := 4 + x.ready.length
def costRels (l : List RelV) : Int := sumI costRel l
def marksRel : Int → List RelV → List RelV
  | _, [] => []
  | k, x :: l => markRel1 k x :: marksRel (k + costRel x) l
theorem costRel_nn (x : RelV) : 0 ≤ costRel x := by unfold costRel; omega
theorem marksRel_len : ∀ (k : Int) (l : List RelV), (marksRel k l).length = l.length
  | _, [] => rfl
  | k, x :: l => by rw [marksRel, List.length_cons, marksRel_len, List.length_cons]
theorem marksRel_app : ∀ (k : Int) (a b : List RelV), marksRel k (a ++ b) = marksRel k a ++ marksRel (k + costRels a) b
  | k, [], b => by simp [marksRel, costRels, sumI]
  | k, x :: a, b => by
    rw [List.cons_append, marksRel, marksRel_app, marksRel, List.cons_append]
    have : k + costRel x + costRels a = k + costRels (x :: a) := by simp only [costRels, sumI, List.map_cons, List.sum_cons]; omega
    rw [this]
theorem marksRel_nth : ∀ (k : Int) (l : List RelV) (i : Nat), i < l.length → nth (marksRel k l) (i : Nat) = markRel1 (k + costRels (l.take i)) (nth l (i : Nat)) := fun k l i hi => by
  have h1 := marksRel_app k (l.take i) (l.drop i)
  rw [List.take_append_drop, List.drop_eq_getElem_cons hi, marksRel] at h1
  have hl : (marksRel k (l.take i)).length = i := by rw [marksRel_len, List.length_take]; omega
  rw [nth_nat (by rw [marksRel_len]; exact hi), nth_nat hi]
  simp only [h1]
  rw [List.getElem_append_right (by omega)]
  simp only [hl, Nat.sub_self, List.getElem_cons_zero]

theorem costRels_len : ∀ l : List RelV, 4 * (l.length : Int) ≤ costRels l
  | [] => by simp [costRels, sumI]
  | x :: l => by
    have := costRels_len l
    simp only [costRels, sumI, List.map_cons, List.sum_cons, List.length_cons] at this ⊢
    unfold costRel at *
    omega
set_option linter.unusedSimpArgs false in
theorem markRelS1 (l : List RelV) (k : Int) (hk : 0 < k) (hk2 : k + costRels l ≤ 100000000) : CallsT Try.prog [⟨5, true, rowT relO l⟩] F.laws_markRelS [.ref 0 [] 0 l.length, .v (.int .i64 k)] (.v (.int .i64 (k + costRels l))) [⟨5, true, rowT relO (marksRel k l)⟩] := by
  refine fnT C.laws_markRelS ?_
  refine run ?_
  refine r_for l.length (fun i => [(0, .ref 0 [] 0 l.length), (1, .v (.int .i64 (k + costRels (l.take i)))), (5, .v (.int .i64 i))]) (fun i => [⟨5, true, rowT relO (marksRel k (l.take i)) ++ rowT relO (l.drop i)⟩]) (fun _ => True) [0] [] trivial (Gc.of (hf := by simp only [costRels, sumI, List.take_zero, List.map_nil, List.sum_nil, Int.add_zero]; (simp only [go_sem, ↓reduceIte, Nat.reduceEqDiff, Nat.reduceMul, Nat.reduceAdd, Nat.reduceSub, Nat.reduceLT, Nat.reduceGT, Nat.reduceLeDiff, Nat.reduceBEq, Int.reduceLT, Int.reduceLE, Int.reduceNe, Int.reduceEq, Int.reduceToNat, Int.reduceAdd, Int.reduceSub, Int.reduceMul, Int.reduceNeg, Nat.reducePow, Int.reducePow, Nat.reduceSubDiff, decide_true, decide_false, reduceCtorEq, or_self, or_false, false_or, or_true, true_or, if_false, gt_iff_lt, ge_iff_le, ne_eq, not_true_eq_false, not_false_eq_true, and_self, beq_self_eq_true, Bool.false_eq_true]; try (repeat (first | exact True.intro | exact Wk.refl _ | exact Wk.nil _ _ | exact Wk.dead _ | exact Wk.bT (by assumption) | exact Wk.bF (by assumption) | exact Wk.eqI (by omega) | exact WkS.refl _ | exact Wks.same _ | exact Wks.nil | exact WkS.nil | refine And.intro ?_ ?_ | refine Wk.aggs ?_ | refine Wk.tups ?_ | refine Wks.cons ?_ ?_ | refine WkS.cons (by first | exact fun _ => rfl | exact fun h => absurd h Bool.false_ne_true) ?_ ?_ ?_ | assumption | exact (fun h => h) | exact (fun h => absurd h Bool.false_ne_true) | intro _)))) (hs := by simp only [List.take_zero, marksRel, rowT_nil, List.nil_append, List.drop_zero, List.append_nil]; (simp (disch := omega) only [go_sem, ↓reduceIte, Nat.reduceEqDiff, Nat.reduceMul, Nat.reduceAdd, Nat.reduceSub, Nat.reduceLT, Nat.reduceGT, Nat.reduceLeDiff, Nat.reduceBEq, Int.reduceLT, Int.reduceLE, Int.reduceNe, Int.reduceEq, Int.reduceToNat, Int.reduceAdd, Int.reduceSub, Int.reduceMul, Int.reduceNeg, Nat.reducePow, Int.reducePow, Nat.reduceSubDiff, decide_true, decide_false, reduceCtorEq, or_self, or_false, false_or, or_true, true_or, if_false, gt_iff_lt, ge_iff_le, ne_eq, not_true_eq_false, not_false_eq_true, and_self, beq_self_eq_true, Bool.false_eq_true, List.append_assoc]; exact WkS.refl _))) (fun i hi _ => ?_) (fun _ => ?_)
  · have hml := marksRel_len k (l.take i)
    have ht : (l.take i).length = i := by rw [List.length_take]; omega
    have hc0 := sum_nn costRel_nn (l.take i)
    have hc1 := sum_take costRel hi
    have hc2 := sum_le costRel_nn l (i + 1)
    have hc3 := costRel_nn (nth l i)
    have hcx : costRel (nth l i) = 4 + (nth l i).ready.length := rfl
    have hcl := costRels_len l
    unfold costRels at *
    rw [List.drop_eq_getElem_cons hi, rowT_cons, ← nth_nat hi]
    dsimp only [relO, List.cons_append, List.nil_append]
    have hend : rowT relO (marksRel k (l.take (i + 1))) = rowT relO (marksRel k (l.take i)) ++ relO (markRel1 (k + sumI costRel (l.take i)) (nth l (i : Nat))) := by
      rw [take_nth hi, marksRel_app, rowT_append]
      simp only [marksRel, rowT_1]
      rfl
    have hM := marksI_len (k + sumI costRel (l.take i) + 1 + 1 + 1) (nth l (i : Nat)).ready.length
    by_cases hr : (nth l (i : Nat)).ready.length = 0
    · have hrn := List.eq_nil_of_length_eq_zero hr
      rw [hrn, show ownC ([] : List Int).length 1 (rowT i64C []) = .sl false 0 0 1 [] from ownC_nil _ _]
      refine run ?_
      refine r_stw ?_
      refine run ?_
      refine r_stw ?_
      refine run ?_
      refine r_stw ?_
      refine run ?_
      refine r_stw ?_
      refine run ?_
      refine ⟨[0], [], Gc.of (hs := ?_), trivial⟩
      rw [hend]
      simp only [markRel1, hrn, relO, List.length_nil, Int.cast_ofNat_Int, Int.add_zero, show ownC (marksI (k + sumI costRel (l.take i) + 1 + 1 + 1) 0).length 1 (rowT i64C (marksI (k + sumI costRel (l.take i) + 1 + 1 + 1) 0)) = .sl false 0 0 1 [] from ownC_nil _ _]
      (simp (disch := omega) only [go_sem, ↓reduceIte, Nat.reduceEqDiff, Nat.reduceMul, Nat.reduceAdd, Nat.reduceSub, Nat.reduceLT, Nat.reduceGT, Nat.reduceLeDiff, Nat.reduceBEq, Int.reduceLT, Int.reduceLE, Int.reduceNe, Int.reduceEq, Int.reduceToNat, Int.reduceAdd, Int.reduceSub, Int.reduceMul, Int.reduceNeg, Nat.reducePow, Int.reducePow, Nat.reduceSubDiff, decide_true, decide_false, reduceCtorEq, or_self, or_false, false_or, or_true, true_or, if_false, gt_iff_lt, ge_iff_le, ne_eq, not_true_eq_false, not_false_eq_true, and_self, beq_self_eq_true, Bool.false_eq_true, List.append_assoc]; exact WkS.refl _)
    rw [ownC_pos _ _ hr]
    refine run ?_
    refine r_stw ?_
    refine run ?_
    refine r_stw ?_
    refine run ?_
    refine r_stw ?_
    refine run ?_
    refine r_callT (calls_cell (r := 0) (p := []) (j := i * 5 + 3) (e0 := 5) rfl (by simp (disch := omega) only [go_sem, ↓reduceIte, Nat.reduceEqDiff, Nat.reduceMul, Nat.reduceAdd, Nat.reduceSub, Nat.reduceLT, Nat.reduceGT, Nat.reduceLeDiff, Nat.reduceBEq, Int.reduceLT, Int.reduceLE, Int.reduceNe, Int.reduceEq, Int.reduceToNat, Int.reduceAdd, Int.reduceSub, Int.reduceMul, Int.reduceNeg, Nat.reducePow, Int.reducePow, Nat.reduceSubDiff, decide_true, decide_false, reduceCtorEq, or_self, or_false, false_or, or_true, true_or, if_false, gt_iff_lt, ge_iff_le, ne_eq, not_true_eq_false, not_false_eq_true, and_self, beq_self_eq_true, Bool.false_eq_true]) (markIntS1 (nth l (i : Nat)).ready (k + sumI costRel (l.take i) + 1 + 1 + 1) (by omega) (by omega)) (by rw [len_row, hM]) (own_row _) (own_row _)) ?_
    refine run ?_
    refine r_stw ?_
    refine run ?_
    refine ⟨[0], [], Gc.of (hs := ?_), trivial⟩
    rw [hend]
    simp only [markRel1, relO, hM]
    rw [ownC_pos _ _ hr]
    (simp (disch := omega) only [go_sem, ↓reduceIte, Nat.reduceEqDiff, Nat.reduceMul, Nat.reduceAdd, Nat.reduceSub, Nat.reduceLT, Nat.reduceGT, Nat.reduceLeDiff, Nat.reduceBEq, Int.reduceLT, Int.reduceLE, Int.reduceNe, Int.reduceEq, Int.reduceToNat, Int.reduceAdd, Int.reduceSub, Int.reduceMul, Int.reduceNeg, Nat.reducePow, Int.reducePow, Nat.reduceSubDiff, decide_true, decide_false, reduceCtorEq, or_self, or_false, false_or, or_true, true_or, if_false, gt_iff_lt, ge_iff_le, ne_eq, not_true_eq_false, not_false_eq_true, and_self, beq_self_eq_true, Bool.false_eq_true, List.append_assoc]; exact WkS.refl _)
  · rw [List.take_length, List.drop_of_length_le (Nat.le_refl _), rowT_nil, List.append_nil]
    refine run ?_
    exact r_end [0] []

theorem markRelSR (l : List RelV) (k : Int) (hk : 0 < k) (hk2 : k + costRels l ≤ 100000000) : CallsT Try.prog [⟨5, !l.isEmpty, rowT relO l⟩] F.laws_markRelS [rowR 5 0 l, .v (.int .i64 k)] (.v (.int .i64 (k + costRels l))) [⟨5, !l.isEmpty, rowT relO (marksRel k l)⟩] := by
  cases l with
  | cons x l => exact markRelS1 (x :: l) k hk hk2
  | nil =>
    rw [rowR_nil]
    refine fnT C.laws_markRelS ?_
    refine run ?_
    refine r_for 0 (fun i => [(0, .sl false 0 0 5 []), (1, .v (.int .i64 k)), (5, .v (.int .i64 i))]) (fun _ => [⟨5, false, []⟩]) (fun _ => True) [0] [] trivial Gc.of (fun i hi _ => absurd hi (Nat.not_lt_zero _)) (fun _ => ?_)
    refine run ?_
    rw [show k + costRels [] = k from Int.add_zero k]
    exact r_end [0] []
theorem markIntSR (l : List Int) (k : Int) (hk : 0 ≤ k) (hk2 : k + l.length ≤ 1000000000) : CallsT Try.prog [⟨1, !l.isEmpty, rowT i64C l⟩] F.laws_markIntS [rowR 1 0 l, .v (.int .i64 k)] (.v (.int .i64 (k + l.length))) [⟨1, !l.isEmpty, rowT i64C (marksI k l.length)⟩] := by
  cases l with
  | cons x l => exact markIntS1 (x :: l) k hk hk2
  | nil =>
    rw [rowR_nil]
    refine fnT C.laws_markIntS ?_
    refine run ?_
    refine r_for 0 (fun i => [(0, .sl false 0 0 1 []), (1, .v (.int .i64 k)), (5, .v (.int .i64 i))]) (fun _ => [⟨1, false, []⟩]) (fun _ => True) [0] [] trivial Gc.of (fun i hi _ => absurd hi (Nat.not_lt_zero _)) (fun _ => ?_)
    refine run ?_
    rw [show k + (([] : List Int).length : Int) = k from Int.add_zero k]
    exact r_end [0] []

/-- A roll that a law marks: of it its rows. -/
theorem markRollR (of act : Int) (rels : List RelV) (order : List Int) (k : Int) (hk : 0 < k) (hk2 : k + costRels rels + order.length ≤ 100000000) : CallsT Try.prog [⟨5, !rels.isEmpty, rowT relO rels⟩, ⟨1, !order.isEmpty, rowT i64C order⟩] F.laws_markRoll [.agg [.v (.int .i64 of), rowR 5 0 rels, .v (.int .i64 act), rowR 1 1 order], .v (.int .i64 k)] (.v (.int .i64 (k + costRels rels + order.length))) [⟨5, !rels.isEmpty, rowT relO (marksRel k rels)⟩, ⟨1, !order.isEmpty, rowT i64C (marksI (k + costRels rels) order.length)⟩] := by
  have hc := sum_nn costRel_nn rels
  have hc' : 0 ≤ costRels rels := hc
  refine fnT C.laws_markRoll ?_
  refine runC ?_
  refine r_calln [0] (markRelSR rels k hk (by omega)) ?_
  refine runC ?_
  refine r_calln [1] (markIntSR order (k + costRels rels) (by omega) (by omega)) ?_
  refine run ?_
  exact r_end [0, 1] []

set_option maxHeartbeats 4000000 in
theorem laws_heldRelS (q : Nat) (k : Int) (l : List RelV) (hpre : 0 < k ∧ k + costRels l ≤ 100000000) : CallsT Try.prog [] F.laws_heldRelS [.sl false q (marksRel k l).length 5 (rowT relC (marksRel k l)), .v (.int .i64 k)] (.v (.int .i64 (k + costRels l))) [] := by
  refine fnT C.laws_heldRelS ?_
  obtain ⟨h0, h1⟩ := hpre
  have hl := marksRel_len k l
  refine run ?_
  refine r_for l.length (fun i => [(0, .sl false q (marksRel k l).length 5 (rowT relC (marksRel k l))), (1, .v (.int .i64 (k + costRels (l.take i)))), (5, .v (.int .i64 i))]) (fun _ => []) (fun _ => True) [] [] trivial (Gc.of (hf := by simp only [costRels, sumI, List.take_zero, List.map_nil, List.sum_nil, Int.add_zero]; (simp only [go_sem, ↓reduceIte, Nat.reduceEqDiff, Nat.reduceMul, Nat.reduceAdd, Nat.reduceSub, Nat.reduceLT, Nat.reduceGT, Nat.reduceLeDiff, Nat.reduceBEq, Int.reduceLT, Int.reduceLE, Int.reduceNe, Int.reduceEq, Int.reduceToNat, Int.reduceAdd, Int.reduceSub, Int.reduceMul, Int.reduceNeg, Nat.reducePow, Int.reducePow, Nat.reduceSubDiff, decide_true, decide_false, reduceCtorEq, or_self, or_false, false_or, or_true, true_or, if_false, gt_iff_lt, ge_iff_le, ne_eq, not_true_eq_false, not_false_eq_true, and_self, beq_self_eq_true, Bool.false_eq_true]; try (repeat (first | exact True.intro | exact Wk.refl _ | exact Wk.nil _ _ | exact Wk.dead _ | exact Wk.bT (by assumption) | exact Wk.bF (by assumption) | exact Wk.eqI (by omega) | exact WkS.refl _ | exact Wks.same _ | exact Wks.nil | exact WkS.nil | refine And.intro ?_ ?_ | refine Wk.aggs ?_ | refine Wk.tups ?_ | refine Wks.cons ?_ ?_ | refine WkS.cons (by first | exact fun _ => rfl | exact fun h => absurd h Bool.false_ne_true) ?_ ?_ ?_ | assumption | exact (fun h => h) | exact (fun h => absurd h Bool.false_ne_true) | intro _))))) (fun i hi _ => ?_) (fun _ => ?_)
  · have hc0 := sum_nn costRel_nn (l.take i)
    have hc1 := sum_take costRel hi
    have hc2 := sum_le costRel_nn l (i + 1)
    have hc3 := costRel_nn (nth l i)
    have hcx : costRel (nth l i) = 4 + (nth l i).ready.length := rfl
    have hcl := costRels_len l
    have hx := marksRel_nth k l i hi
    unfold costRels at *
    have x1 : (nth (marksRel k l) (i : Nat)).no = k + sumI costRel (l.take i) := by rw [hx]; rfl
    have x2 : (nth (marksRel k l) (i : Nat)).size = k + sumI costRel (l.take i) + 1 := by rw [hx]; rfl
    have x3 : (nth (marksRel k l) (i : Nat)).dig = mT (k + sumI costRel (l.take i) + 1 + 1) := by rw [hx]; rfl
    have x4 : (nth (marksRel k l) (i : Nat)).ready = marksI (k + sumI costRel (l.take i) + 1 + 1 + 1) (nth l (i : Nat)).ready.length := by rw [hx]; rfl
    have x5 : (nth (marksRel k l) (i : Nat)).state = k + sumI costRel (l.take i) + 1 + 1 + 1 + (nth l (i : Nat)).ready.length := by rw [hx]; rfl
    clear hx
    refine run ?_
    refine r_ifd (fun h => ?_) (fun h => ?_)
    · exact absurd x3 h
    refine runC ?_
    rw [x4]
    refine run ?_
    exact ⟨[], [], Gc.of, trivial⟩
  · rw [List.take_length]
    refine run ?_
    exact r_end [] []
instance (q : Nat) (k : Int) (l : List RelV) : Con Try.prog F.laws_heldRelS [.sl false q (marksRel k l).length 5 (rowT relC (marksRel k l)), .v (.int .i64 k)] (0 < k ∧ k + costRels l ≤ 100000000) (.v (.int .i64 (k + costRels l))) [] := ⟨fun h => laws_heldRelS q k l h⟩

set_option maxHeartbeats 4000000 in
theorem laws_heldRoll (q0 q1 : Nat) (k of act : Int) (rels : List RelV) (order : List Int) (hpre : 0 < k ∧ k + costRels rels + order.length ≤ 100000000) : CallsT Try.prog [] F.laws_heldRoll [.agg [.v (.int .i64 of), .sl false q0 (marksRel k rels).length 5 (rowT relC (marksRel k rels)), .v (.int .i64 act), .sl false q1 (marksI (k + costRels rels) order.length).length 1 (rowT i64C (marksI (k + costRels rels) order.length))], .v (.int .i64 k)] (.v (.int .i64 (k + costRels rels + order.length))) [] := by
  refine fnT C.laws_heldRoll ?_
  obtain ⟨h0, h1⟩ := hpre
  have hc := sum_nn costRel_nn rels
  have hc' : 0 ≤ costRels rels := hc
  refine run ?_
  exact r_end [] []
instance (q0 q1 : Nat) (k of act : Int) (rels : List RelV) (order : List Int) : Con Try.prog F.laws_heldRoll [.agg [.v (.int .i64 of), .sl false q0 (marksRel k rels).length 5 (rowT relC (marksRel k rels)), .v (.int .i64 act), .sl false q1 (marksI (k + costRels rels) order.length).length 1 (rowT i64C (marksI (k + costRels rels) order.length))], .v (.int .i64 k)] (0 < k ∧ k + costRels rels + order.length ≤ 100000000) (.v (.int .i64 (k + costRels rels + order.length))) [] := ⟨fun h => laws_heldRoll q0 q1 k of act rels order h⟩

end Go.TL
