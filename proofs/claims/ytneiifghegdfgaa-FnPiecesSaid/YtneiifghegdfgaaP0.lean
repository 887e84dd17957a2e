/- Helds of one's own: made, marked, held. No conditions but those that are written. -/
import Derived.Test.YtneiifghegdfgaaJA5A7
import Derived.Test.YtneiifghegdfgaaM0
namespace Go.TL
set_option linter.unusedSimpArgs false
open Go.Proofs Go.RowKit
attribute [local irreducible] wpOpsT wpT EndT Ex.seq Ex.block W

def heldO (x : HeldV) : List T := [.v (.int .i64 x.rel), .v (.int .i64 x.size), .v (.string x.dig), ownC x.parts.length 1 (rowT strC x.parts)]
instance : RowO heldO heldC 4 := ⟨fun _ => rfl, fun x => by simp [heldO, allTs, allT, leafOwn, own_ownC], fun x => by simp only [heldO, zns, zn, zn_ownC, heldC], by decide⟩
attribute [go_sem] heldO

@[go_sem] theorem off_10 (x : Nat) : x + 1 + 0 = x + 1 := rfl
@[go_sem] theorem off_11 (x : Nat) : x + 1 + 1 = x + 2 := rfl
@[go_sem] theorem off_12 (x : Nat) : x + 1 + 2 = x + 3 := rfl

theorem toStringSO (k : Nat) (l : List ByteArray) (hb : l.length ≤ 8796093022208) : CallsT Try.prog [] F.laws_toStringS [.sl false k l.length 1 (rowT strC l)] (.ref 0 [] 0 l.length) [⟨1, true, rowT strC l⟩] := by
  refine fnT C.laws_toStringS ?_
  refine run ?_
  rw [List.length_replicate]
  refine r_for l.length (fun i => [(0, .sl false k l.length 1 (rowT strC l)), (3, .ref 0 [] 0 l.length), (4, .v (.int .i64 i))]) (fun i => [⟨1, true, rowT strC (l.take i ++ (List.replicate l.length ⟨#[]⟩).drop i)⟩]) (fun _ => True) [0] [] trivial Gc.of (fun i hi _ => ?_) (fun _ => ?_)
  · refine run ?_
    refine r_sto (enc := strC) _ i (nth l i) ?_
    rw [set_mix hi (by simp)]
    refine run ?_
    exact ⟨[0], [], Gc.of, trivial⟩
  · rw [List.take_length, List.drop_of_length_le (by simp), List.append_nil]
    refine run ?_
    exact r_end [0] []

theorem toParcelO (sz : Int) (d : ByteArray) (l : List ByteArray) (hb : l.length ≤ 8796093022208) : CallsT Try.prog [] F.laws_toParcel [.agg [.v (.int .i64 sz), .v (.string d), .sl false 1 l.length 1 (rowT strC l)]] (.agg [.v (.int .i64 sz), .v (.string d), .ref 0 [] 0 l.length]) [⟨1, true, rowT strC l⟩] := by
  refine fnT C.laws_toParcel ?_
  refine runC ?_
  refine r_callp true (toStringSO 1 l hb) ?_
  refine run ?_
  exact r_end [3] []
theorem toHeldO (r sz : Int) (d : ByteArray) (l : List ByteArray) (hb : l.length ≤ 8796093022208) : CallsT Try.prog [] F.laws_toHeld [.agg [.v (.int .i64 r), .v (.int .i64 sz), .v (.string d), .sl false 1 l.length 1 (rowT strC l)]] (.agg [.v (.int .i64 r), .v (.int .i64 sz), .v (.string d), .ref 0 [] 0 l.length]) [⟨1, true, rowT strC l⟩] := by
  refine fnT C.laws_toHeld ?_
  refine runC ?_
  refine r_callp true (toParcelO sz d l hb) ?_
  refine run ?_
  exact r_end [3] []

set_option linter.unusedSimpArgs false in
theorem toHeldSO (k : Nat) (l : List HeldV) (hpre : bndHS l) : CallsT Try.prog [] F.laws_toHeldS [.sl false k l.length 4 (rowT heldC l)] (.ref 0 [] 0 l.length) [⟨4, true, rowT heldO l⟩] := by
  obtain ⟨hb1, hb2⟩ := hpre
  refine fnT C.laws_toHeldS ?_
  refine run ?_
  rw [List.length_replicate]
  refine r_for l.length (fun i => [(0, .sl false k l.length 4 (rowT heldC l)), (3, .ref 0 [] 0 l.length), (4, .v (.int .i64 i))]) (fun i => [⟨4, true, rowT heldO (l.take i) ++ rowT zHeldC (List.replicate (l.length - i) ())⟩]) (fun _ => True) [0] [] trivial Gc.of (fun i hi _ => ?_) (fun _ => ?_)
  · have hs1 : bndP (nth l i).dig (nth l i).parts := hb2 _ (nth_mem hi)
    have ht : (l.take i).length = i := by rw [List.length_take]; omega
    obtain ⟨m, hm⟩ : ∃ m, l.length - i = m + 1 := ⟨l.length - i - 1, by omega⟩
    have hm' : l.length - (i + 1) = m := by omega
    rw [hm, List.replicate_succ, rowT_cons]
    dsimp only [zHeldC, List.cons_append, List.nil_append]
    refine runC ?_
    refine r_callp true (toHeldO (nth l i).rel (nth l i).size (nth l i).dig (nth l i).parts hs1.2.1) ?_
    refine run ?_
    refine r_stw ?_
    refine run ?_
    refine ⟨[2], [.nest 0 [] (i * 4 + 3) 1], Gc.of (hs := by rw [hm', take_nth hi, rowT_append, rowT_1]; (simp (disch := omega) only [go_sem, ↓reduceIte, Nat.reduceEqDiff, Nat.reduceMul, Nat.reduceAdd, Nat.reduceSub, Nat.reduceLT, Nat.reduceGT, Nat.reduceLeDiff, Nat.reduceBEq, Int.reduceLT, Int.reduceLE, Int.reduceNe, Int.reduceEq, Int.reduceToNat, Int.reduceAdd, Int.reduceSub, Int.reduceMul, Int.reduceNeg, Nat.reducePow, Int.reducePow, Nat.reduceSubDiff, decide_true, decide_false, reduceCtorEq, or_self, or_false, false_or, or_true, true_or, if_false, gt_iff_lt, ge_iff_le, ne_eq, not_true_eq_false, not_false_eq_true, and_self, beq_self_eq_true, Bool.false_eq_true, List.append_assoc]; exact WkS.refl _)), trivial⟩
  · rw [List.take_length, Nat.sub_self, List.replicate_zero, rowT_nil, List.append_nil]
    refine run ?_
    exact r_end [0] []

/-- The texts that are written, from k on. -/
def marksS (k : Int) (n : Nat) : List ByteArray := (List.range n).map fun (i : Nat) => mT (k + (i : Int))
theorem marksS_len (k : Int) (n : Nat) : (marksS k n).length = n := by simp [marksS]
theorem marksS_s (k : Int) (n : Nat) : marksS k (n + 1) = marksS k n ++ [mT (k + n)] := by simp [marksS, List.range_succ]
theorem marksS_nth (k : Int) {n i : Nat} (h : i < n) : nth (marksS k n) (i : Nat) = mT (k + i) := by
  rw [nth_nat (by rw [marksS_len]; exact h)]; simp [marksS]
theorem set_mixS {l : List ByteArray} (k : Int) {i : Nat} (h : i < l.length) : (marksS k i ++ l.drop i).set i (mT (k + i)) = marksS k (i + 1) ++ l.drop (i + 1) := by
  rw [List.set_append_right _ _ (by rw [marksS_len]; exact Nat.le_refl _), marksS_len, Nat.sub_self, List.drop_eq_getElem_cons h, List.set_cons_zero, marksS_s, List.append_assoc]; rfl

theorem markStringS1 (l : List ByteArray) (k : Int) (hk : 0 < k) (hk2 : k + l.length ≤ 1000000000) : CallsT Try.prog [⟨1, true, rowT strC l⟩] F.laws_markStringS [.ref 0 [] 0 l.length, .v (.int .i64 k)] (.v (.int .i64 (k + l.length))) [⟨1, true, rowT strC (marksS k l.length)⟩] := by
  refine fnT C.laws_markStringS ?_
  refine run ?_
  refine r_for l.length (fun i => [(0, .ref 0 [] 0 l.length), (1, .v (.int .i64 (k + i))), (5, .v (.int .i64 i))]) (fun i => [⟨1, true, rowT strC (marksS k i ++ l.drop i)⟩]) (fun _ => True) [0] [] trivial Gc.of (fun i hi _ => ?_) (fun _ => ?_)
  · have hml := marksS_len k i
    refine run ?_
    refine r_sto (enc := strC) _ i (mT (k + i)) ?_
    rw [set_mixS k hi]
    refine run ?_
    exact ⟨[0], [], Gc.of, trivial⟩
  · rw [List.drop_of_length_le (Nat.le_refl _), List.append_nil]
    refine run ?_
    exact r_end [0] []

set_option maxHeartbeats 4000000 in
theorem laws_markStringS (q : Nat) (k : Int) : CallsT Try.prog [] F.laws_markStringS [.sl false q 0 1 [], .v (.int .i64 k)] (.v (.int .i64 k)) [] := by
  refine fnT C.laws_markStringS ?_
  refine run ?_
  refine r_for 0 (fun i => [(0, .sl false q 0 1 []), (1, .v (.int .i64 k)), (5, .v (.int .i64 i))]) (fun _ => []) (fun _ => True) [] [] trivial Gc.of (fun i hi _ => absurd hi (Nat.not_lt_zero _)) (fun _ => ?_)
  refine run ?_
  exact r_end [] []
instance (q : Nat) (k : Int) : Con Try.prog F.laws_markStringS [.sl false q 0 1 [], .v (.int .i64 k)] True (.v (.int .i64 k)) [] := ⟨fun _ => laws_markStringS q k⟩

set_option maxHeartbeats 4000000 in
theorem laws_heldStringS (q n : Nat) (k : Int) (hpre : 0 < k ∧ k + n ≤ 1000000000) : CallsT Try.prog [] F.laws_heldStringS [.sl false q (marksS k n).length 1 (rowT strC (marksS k n)), .v (.int .i64 k)] (.v (.int .i64 (k + n))) [] := by
  refine fnT C.laws_heldStringS ?_
  have hl := marksS_len k n
  refine run ?_
  refine r_for n (fun i => [(0, .sl false q (marksS k n).length 1 (rowT strC (marksS k n))), (1, .v (.int .i64 (k + i))), (5, .v (.int .i64 i))]) (fun _ => []) (fun _ => True) [] [] trivial Gc.of (fun i hi _ => ?_) (fun _ => ?_)
  · have hv := marksS_nth k hi
    refine run ?_
    refine r_ifd (fun h => ?_) (fun h => ?_)
    · exact absurd hv h
    refine run ?_
    exact ⟨[], [], Gc.of, trivial⟩
  · refine run ?_
    exact r_end [] []
instance (q n : Nat) (k : Int) : Con Try.prog F.laws_heldStringS [.sl false q (marksS k n).length 1 (rowT strC (marksS k n)), .v (.int .i64 k)] (0 < k ∧ k + n ≤ 1000000000) (.v (.int .i64 (k + n))) [] := ⟨fun h => laws_heldStringS q n k h⟩

/-- A held that a law marks from k on; how far the numbers go. -/
def markHeld1 (k : Int) (x : HeldV) : HeldV := ⟨k, k + 1, mT (k + 1 + 1), marksS (k + 1 + 1 + 1) x.parts.length⟩
def costH (x : HeldV) : Int := 3 + x.parts.length
def costHS (l : List HeldV) : Int := sumI costH l
def marksHeld : Int → List HeldV → List HeldV
  | _, [] => []
  | k, x :: l => markHeld1 k x :: marksHeld (k + costH x) l
theorem costH_nn (x : HeldV) : 0 ≤ costH x := by unfold costH; omega
theorem marksHeld_len : ∀ (k : Int) (l : List HeldV), (marksHeld k l).length = l.length
  | _, [] => rfl
  | k, x :: l => by rw [marksHeld, List.length_cons, marksHeld_len, List.length_cons]
theorem marksHeld_app : ∀ (k : Int) (a b : List HeldV), marksHeld k (a ++ b) = marksHeld k a ++ marksHeld (k + costHS a) b
  | k, [], b => by simp [marksHeld, costHS, sumI]
  | k, x :: a, b => by
    rw [List.cons_append, marksHeld, marksHeld_app, marksHeld, List.cons_append]
    have : k + costH x + costHS a = k + costHS (x :: a) := by simp only [costHS, sumI, List.map_cons, List.sum_cons]; omega
    rw [this]
theorem marksHeld_nth : ∀ (k : Int) (l : List HeldV) (i : Nat), i < l.length → nth (marksHeld k l) (i : Nat) = markHeld1 (k + costHS (l.take i)) (nth l (i : Nat)) := fun k l i hi => by
  have h1 := marksHeld_app k (l.take i) (l.drop i)
  rw [List.take_append_drop, List.drop_eq_getElem_cons hi, marksHeld] at h1
  have hl : (marksHeld k (l.take i)).length = i := by rw [marksHeld_len, List.length_take]; omega
  rw [nth_nat (by rw [marksHeld_len]; exact hi), nth_nat hi]
  simp only [h1]
  rw [List.getElem_append_right (by omega)]
  simp only [hl, Nat.sub_self, List.getElem_cons_zero]
theorem costHS_len : ∀ l : List HeldV, 3 * (l.length : Int) ≤ costHS l
  | [] => by simp [costHS, sumI]
  | x :: l => by
    have := costHS_len l
    simp only [costHS, sumI, List.map_cons, List.sum_cons, List.length_cons] at this ⊢
    unfold costH at *
    omega
theorem costHS_tot : ∀ l : List HeldV, costHS l ≤ 3 * totHS l
  | [] => by simp [costHS, totHS, sumI]
  | x :: l => by
    have := costHS_tot l
    have h2 := sum_nn szS_nn x.parts
    simp only [costHS, totHS, sumI, List.map_cons, List.sum_cons, List.length_cons] at this ⊢
    unfold sumI at h2
    unfold costH totH totP totS sumI at *
    omega

set_option linter.unusedSimpArgs false in
theorem markHeldS1 (l : List HeldV) (k : Int) (hk : 0 < k) (hk2 : k + costHS l ≤ 100000000) : CallsT Try.prog [⟨4, true, rowT heldO l⟩] F.laws_markHeldS [.ref 0 [] 0 l.length, .v (.int .i64 k)] (.v (.int .i64 (k + costHS l))) [⟨4, true, rowT heldO (marksHeld k l)⟩] := by
  refine fnT C.laws_markHeldS ?_
  refine run ?_
  refine r_for l.length (fun i => [(0, .ref 0 [] 0 l.length), (1, .v (.int .i64 (k + costHS (l.take i)))), (5, .v (.int .i64 i))]) (fun i => [⟨4, true, rowT heldO (marksHeld k (l.take i)) ++ rowT heldO (l.drop i)⟩]) (fun _ => True) [0] [] trivial (Gc.of (hf := by simp only [costHS, sumI, List.take_zero, List.map_nil, List.sum_nil, Int.add_zero]; (simp only [go_sem, ↓reduceIte, Nat.reduceEqDiff, Nat.reduceMul, Nat.reduceAdd, Nat.reduceSub, Nat.reduceLT, Nat.reduceGT, Nat.reduceLeDiff, Nat.reduceBEq, Int.reduceLT, Int.reduceLE, Int.reduceNe, Int.reduceEq, Int.reduceToNat, Int.reduceAdd, Int.reduceSub, Int.reduceMul, Int.reduceNeg, Nat.reducePow, Int.reducePow, Nat.reduceSubDiff, decide_true, decide_false, reduceCtorEq, or_self, or_false, false_or, or_true, true_or, if_false, gt_iff_lt, ge_iff_le, ne_eq, not_true_eq_false, not_false_eq_true, and_self, beq_self_eq_true, Bool.false_eq_true]; try (repeat (first | exact True.intro | exact Wk.refl _ | exact Wk.nil _ _ | exact Wk.dead _ | exact Wk.bT (by assumption) | exact Wk.bF (by assumption) | exact Wk.eqI (by omega) | exact WkS.refl _ | exact Wks.same _ | exact Wks.nil | exact WkS.nil | refine And.intro ?_ ?_ | refine Wk.aggs ?_ | refine Wk.tups ?_ | refine Wks.cons ?_ ?_ | refine WkS.cons (by first | exact fun _ => rfl | exact fun h => absurd h Bool.false_ne_true) ?_ ?_ ?_ | assumption | exact (fun h => h) | exact (fun h => absurd h Bool.false_ne_true) | intro _)))) (hs := by simp only [List.take_zero, marksHeld, rowT_nil, List.nil_append, List.drop_zero, List.append_nil]; (simp (disch := omega) only [go_sem, ↓reduceIte, Nat.reduceEqDiff, Nat.reduceMul, Nat.reduceAdd, Nat.reduceSub, Nat.reduceLT, Nat.reduceGT, Nat.reduceLeDiff, Nat.reduceBEq, Int.reduceLT, Int.reduceLE, Int.reduceNe, Int.reduceEq, Int.reduceToNat, Int.reduceAdd, Int.reduceSub, Int.reduceMul, Int.reduceNeg, Nat.reducePow, Int.reducePow, Nat.reduceSubDiff, decide_true, decide_false, reduceCtorEq, or_self, or_false, false_or, or_true, true_or, if_false, gt_iff_lt, ge_iff_le, ne_eq, not_true_eq_false, not_false_eq_true, and_self, beq_self_eq_true, Bool.false_eq_true, List.append_assoc]; exact WkS.refl _))) (fun i hi _ => ?_) (fun _ => ?_)
  · have hml := marksHeld_len k (l.take i)
    have ht : (l.take i).length = i := by rw [List.length_take]; omega
    have hc0 := sum_nn costH_nn (l.take i)
    have hc1 := sum_take costH hi
    have hc2 := sum_le costH_nn l (i + 1)
    have hc3 := costH_nn (nth l i)
    have hcx : costH (nth l i) = 3 + (nth l i).parts.length := rfl
    have hcl := costHS_len l
    unfold costHS at *
    rw [List.drop_eq_getElem_cons hi, rowT_cons, ← nth_nat hi]
    dsimp only [heldO, List.cons_append, List.nil_append]
    have hend : rowT heldO (marksHeld k (l.take (i + 1))) = rowT heldO (marksHeld k (l.take i)) ++ heldO (markHeld1 (k + sumI costH (l.take i)) (nth l (i : Nat))) := by
      rw [take_nth hi, marksHeld_app, rowT_append]
      simp only [marksHeld, rowT_1]
      rfl
    have hM := marksS_len (k + sumI costH (l.take i) + 1 + 1 + 1) (nth l (i : Nat)).parts.length
    by_cases hr : (nth l (i : Nat)).parts.length = 0
    · have hrn := List.eq_nil_of_length_eq_zero hr
      rw [hrn, show ownC ([] : List ByteArray).length 1 (rowT strC []) = .sl false 0 0 1 [] from ownC_nil _ _]
      refine run ?_
      refine r_stw ?_
      refine run ?_
      refine r_stw ?_
      refine run ?_
      refine r_stw ?_
      refine run ?_
      refine ⟨[0], [], Gc.of (hs := ?_), trivial⟩
      rw [hend]
      simp only [markHeld1, hrn, heldO, List.length_nil, Int.cast_ofNat_Int, Int.add_zero, show ownC (marksS (k + sumI costH (l.take i) + 1 + 1 + 1) 0).length 1 (rowT strC (marksS (k + sumI costH (l.take i) + 1 + 1 + 1) 0)) = .sl false 0 0 1 [] from ownC_nil _ _]
      (simp (disch := omega) only [go_sem, ↓reduceIte, Nat.reduceEqDiff, Nat.reduceMul, Nat.reduceAdd, Nat.reduceSub, Nat.reduceLT, Nat.reduceGT, Nat.reduceLeDiff, Nat.reduceBEq, Int.reduceLT, Int.reduceLE, Int.reduceNe, Int.reduceEq, Int.reduceToNat, Int.reduceAdd, Int.reduceSub, Int.reduceMul, Int.reduceNeg, Nat.reducePow, Int.reducePow, Nat.reduceSubDiff, decide_true, decide_false, reduceCtorEq, or_self, or_false, false_or, or_true, true_or, if_false, gt_iff_lt, ge_iff_le, ne_eq, not_true_eq_false, not_false_eq_true, and_self, beq_self_eq_true, Bool.false_eq_true, List.append_assoc]; exact WkS.refl _)
    rw [ownC_pos _ _ hr]
    refine run ?_
    refine r_stw ?_
    refine run ?_
    refine r_stw ?_
    refine run ?_
    refine r_stw ?_
    refine run ?_
    refine r_callT (calls_cell (r := 0) (p := []) (j := i * 4 + 3) (e0 := 4) rfl (by simp (disch := omega) only [go_sem, ↓reduceIte, Nat.reduceEqDiff, Nat.reduceMul, Nat.reduceAdd, Nat.reduceSub, Nat.reduceLT, Nat.reduceGT, Nat.reduceLeDiff, Nat.reduceBEq, Int.reduceLT, Int.reduceLE, Int.reduceNe, Int.reduceEq, Int.reduceToNat, Int.reduceAdd, Int.reduceSub, Int.reduceMul, Int.reduceNeg, Nat.reducePow, Int.reducePow, Nat.reduceSubDiff, decide_true, decide_false, reduceCtorEq, or_self, or_false, false_or, or_true, true_or, if_false, gt_iff_lt, ge_iff_le, ne_eq, not_true_eq_false, not_false_eq_true, and_self, beq_self_eq_true, Bool.false_eq_true]) (markStringS1 (nth l (i : Nat)).parts (k + sumI costH (l.take i) + 1 + 1 + 1) (by omega) (by omega)) (by rw [len_row, hM]) (own_row _) (own_row _)) ?_
    refine run ?_
    refine ⟨[0], [], Gc.of (hs := ?_), trivial⟩
    rw [hend]
    simp only [markHeld1, heldO, hM]
    rw [ownC_pos _ _ hr]
    (simp (disch := omega) only [go_sem, ↓reduceIte, Nat.reduceEqDiff, Nat.reduceMul, Nat.reduceAdd, Nat.reduceSub, Nat.reduceLT, Nat.reduceGT, Nat.reduceLeDiff, Nat.reduceBEq, Int.reduceLT, Int.reduceLE, Int.reduceNe, Int.reduceEq, Int.reduceToNat, Int.reduceAdd, Int.reduceSub, Int.reduceMul, Int.reduceNeg, Nat.reducePow, Int.reducePow, Nat.reduceSubDiff, decide_true, decide_false, reduceCtorEq, or_self, or_false, false_or, or_true, true_or, if_false, gt_iff_lt, ge_iff_le, ne_eq, not_true_eq_false, not_false_eq_true, and_self, beq_self_eq_true, Bool.false_eq_true, List.append_assoc]; exact WkS.refl _)
  · rw [List.take_length, List.drop_of_length_le (Nat.le_refl _), rowT_nil, List.append_nil]
    refine run ?_
    exact r_end [0] []

set_option maxHeartbeats 4000000 in
theorem laws_heldHeldS (q : Nat) (k : Int) (l : List HeldV) (hpre : 0 < k ∧ k + costHS l ≤ 100000000) : CallsT Try.prog [] F.laws_heldHeldS [.sl false q (marksHeld k l).length 4 (rowT heldC (marksHeld k l)), .v (.int .i64 k)] (.v (.int .i64 (k + costHS l))) [] := by
  refine fnT C.laws_heldHeldS ?_
  obtain ⟨h0, h1⟩ := hpre
  have hl := marksHeld_len k l
  refine run ?_
  refine r_for l.length (fun i => [(0, .sl false q (marksHeld k l).length 4 (rowT heldC (marksHeld k l))), (1, .v (.int .i64 (k + costHS (l.take i)))), (5, .v (.int .i64 i))]) (fun _ => []) (fun _ => True) [] [] trivial (Gc.of (hf := by simp only [costHS, sumI, List.take_zero, List.map_nil, List.sum_nil, Int.add_zero]; (simp only [go_sem, ↓reduceIte, Nat.reduceEqDiff, Nat.reduceMul, Nat.reduceAdd, Nat.reduceSub, Nat.reduceLT, Nat.reduceGT, Nat.reduceLeDiff, Nat.reduceBEq, Int.reduceLT, Int.reduceLE, Int.reduceNe, Int.reduceEq, Int.reduceToNat, Int.reduceAdd, Int.reduceSub, Int.reduceMul, Int.reduceNeg, Nat.reducePow, Int.reducePow, Nat.reduceSubDiff, decide_true, decide_false, reduceCtorEq, or_self, or_false, false_or, or_true, true_or, if_false, gt_iff_lt, ge_iff_le, ne_eq, not_true_eq_false, not_false_eq_true, and_self, beq_self_eq_true, Bool.false_eq_true]; try (repeat (first | exact True.intro | exact Wk.refl _ | exact Wk.nil _ _ | exact Wk.dead _ | exact Wk.bT (by assumption) | exact Wk.bF (by assumption) | exact Wk.eqI (by omega) | exact WkS.refl _ | exact Wks.same _ | exact Wks.nil | exact WkS.nil | refine And.intro ?_ ?_ | refine Wk.aggs ?_ | refine Wk.tups ?_ | refine Wks.cons ?_ ?_ | refine WkS.cons (by first | exact fun _ => rfl | exact fun h => absurd h Bool.false_ne_true) ?_ ?_ ?_ | assumption | exact (fun h => h) | exact (fun h => absurd h Bool.false_ne_true) | intro _))))) (fun i hi _ => ?_) (fun _ => ?_)
  · have hc0 := sum_nn costH_nn (l.take i)
    have hc1 := sum_take costH hi
    have hc2 := sum_le costH_nn l (i + 1)
    have hc3 := costH_nn (nth l i)
    have hcx : costH (nth l i) = 3 + (nth l i).parts.length := rfl
    have hcl := costHS_len l
    have hx := marksHeld_nth k l i hi
    unfold costHS at *
    have x1 : (nth (marksHeld k l) (i : Nat)).rel = k + sumI costH (l.take i) := by rw [hx]; rfl
    have x2 : (nth (marksHeld k l) (i : Nat)).size = k + sumI costH (l.take i) + 1 := by rw [hx]; rfl
    have x3 : (nth (marksHeld k l) (i : Nat)).dig = mT (k + sumI costH (l.take i) + 1 + 1) := by rw [hx]; rfl
    have x4 : (nth (marksHeld k l) (i : Nat)).parts = marksS (k + sumI costH (l.take i) + 1 + 1 + 1) (nth l (i : Nat)).parts.length := by rw [hx]; rfl
    clear hx
    refine run ?_
    refine r_ifd (fun h => ?_) (fun h => ?_)
    · exact absurd x3 h
    refine runC ?_
    rw [x4]
    refine run ?_
    exact ⟨[], [], Gc.of, trivial⟩
  · rw [List.take_length]
    refine run ?_
    exact r_end [] []
instance (q : Nat) (k : Int) (l : List HeldV) : Con Try.prog F.laws_heldHeldS [.sl false q (marksHeld k l).length 4 (rowT heldC (marksHeld k l)), .v (.int .i64 k)] (0 < k ∧ k + costHS l ≤ 100000000) (.v (.int .i64 (k + costHS l))) [] := ⟨fun h => laws_heldHeldS q k l h⟩

theorem heldHeldSR (l : List HeldV) (k : Int) (hk : 0 < k) (hk2 : k + costHS l ≤ 100000000) : CallsT Try.prog [⟨4, true, rowT heldO (marksHeld k l)⟩] F.laws_heldHeldS [.ref 0 [] 0 l.length, .v (.int .i64 k)] (.v (.int .i64 (k + costHS l))) [⟨4, true, rowT heldO (marksHeld k l)⟩] := by
  have h := laws_heldHeldS 1 k l ⟨hk, hk2⟩
  rw [show l.length = (marksHeld k l).length from (marksHeld_len k l).symm]
  exact call_frame (rt := true) h (.same _) (by simp (disch := omega) only [go_sem, ↓reduceIte, Nat.reduceEqDiff, Nat.reduceMul, Nat.reduceAdd, Nat.reduceSub, Nat.reduceLT, Nat.reduceGT, Nat.reduceLeDiff, Nat.reduceBEq, Int.reduceLT, Int.reduceLE, Int.reduceNe, Int.reduceEq, Int.reduceToNat, Int.reduceAdd, Int.reduceSub, Int.reduceMul, Int.reduceNeg, Nat.reducePow, Int.reducePow, Nat.reduceSubDiff, decide_true, decide_false, reduceCtorEq, or_self, or_false, false_or, or_true, true_or, if_false, gt_iff_lt, ge_iff_le, ne_eq, not_true_eq_false, not_false_eq_true, and_self, beq_self_eq_true, Bool.false_eq_true]) (by simp (disch := omega) only [go_sem, ↓reduceIte, Nat.reduceEqDiff, Nat.reduceMul, Nat.reduceAdd, Nat.reduceSub, Nat.reduceLT, Nat.reduceGT, Nat.reduceLeDiff, Nat.reduceBEq, Int.reduceLT, Int.reduceLE, Int.reduceNe, Int.reduceEq, Int.reduceToNat, Int.reduceAdd, Int.reduceSub, Int.reduceMul, Int.reduceNeg, Nat.reducePow, Int.reducePow, Nat.reduceSubDiff, decide_true, decide_false, reduceCtorEq, or_self, or_false, false_or, or_true, true_or, if_false, gt_iff_lt, ge_iff_le, ne_eq, not_true_eq_false, not_false_eq_true, and_self, beq_self_eq_true, Bool.false_eq_true]) (by simp (disch := omega) only [go_sem, ↓reduceIte, Nat.reduceEqDiff, Nat.reduceMul, Nat.reduceAdd, Nat.reduceSub, Nat.reduceLT, Nat.reduceGT, Nat.reduceLeDiff, Nat.reduceBEq, Int.reduceLT, Int.reduceLE, Int.reduceNe, Int.reduceEq, Int.reduceToNat, Int.reduceAdd, Int.reduceSub, Int.reduceMul, Int.reduceNeg, Nat.reducePow, Int.reducePow, Nat.reduceSubDiff, decide_true, decide_false, reduceCtorEq, or_self, or_false, false_or, or_true, true_or, if_false, gt_iff_lt, ge_iff_le, ne_eq, not_true_eq_false, not_false_eq_true, and_self, beq_self_eq_true, Bool.false_eq_true]) (by simp (disch := omega) only [go_sem, ↓reduceIte, Nat.reduceEqDiff, Nat.reduceMul, Nat.reduceAdd, Nat.reduceSub, Nat.reduceLT, Nat.reduceGT, Nat.reduceLeDiff, Nat.reduceBEq, Int.reduceLT, Int.reduceLE, Int.reduceNe, Int.reduceEq, Int.reduceToNat, Int.reduceAdd, Int.reduceSub, Int.reduceMul, Int.reduceNeg, Nat.reducePow, Int.reducePow, Nat.reduceSubDiff, decide_true, decide_false, reduceCtorEq, or_self, or_false, false_or, or_true, true_or, if_false, gt_iff_lt, ge_iff_le, ne_eq, not_true_eq_false, not_false_eq_true, and_self, beq_self_eq_true, Bool.false_eq_true]) (by simp (disch := omega) only [go_sem, ↓reduceIte, Nat.reduceEqDiff, Nat.reduceMul, Nat.reduceAdd, Nat.reduceSub, Nat.reduceLT, Nat.reduceGT, Nat.reduceLeDiff, Nat.reduceBEq, Int.reduceLT, Int.reduceLE, Int.reduceNe, Int.reduceEq, Int.reduceToNat, Int.reduceAdd, Int.reduceSub, Int.reduceMul, Int.reduceNeg, Nat.reducePow, Int.reducePow, Nat.reduceSubDiff, decide_true, decide_false, reduceCtorEq, or_self, or_false, false_or, or_true, true_or, if_false, gt_iff_lt, ge_iff_le, ne_eq, not_true_eq_false, not_false_eq_true, and_self, beq_self_eq_true, Bool.false_eq_true])

end Go.TL
