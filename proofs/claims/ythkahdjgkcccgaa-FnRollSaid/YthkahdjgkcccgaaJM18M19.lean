/- Texts joined. No conditions but those that are written. -/
import Derived.Test.YthkahdjgkcccgaaJM2M5
import Derived.Test.YthkahdjgkcccgaaJM10M11
import Derived.Test.YthkahdjgkcccgaaL16
/- What the reference's RollApply gives for what is right: rows that may grow. No conditions but those that are written. -/
namespace Go.TL
set_option linter.unusedSimpArgs false
open Go.Proofs Go.RowKit
attribute [local irreducible] wpOpsT wpT EndT Ex.seq Ex.block W

/-- A roll that is one's own, its rows such as may grow. -/
def rollA (x : RollV) : T := .agg [.v (.int .i64 x.of), nilR 0 x.rels, .v (.int .i64 x.act), .ref 1 [] 0 x.order.length]
def rollB (x : RollV) : Store := [⟨5, !x.rels.isEmpty, rowT relO x.rels⟩, ⟨1, true, rowT i64C x.order⟩]

set_option linter.unusedSimpArgs false in
set_option maxHeartbeats 8000000 in
theorem spec_RollApplyS (k0 k1 : Nat) (of : Int) (rels : List RelV) (act : Int) (order : List Int) (k r n z : Int) (d : ByteArray) (hb : bndRoll rels order) (hpre : totRoll rels order ≤ 1048576) (hok : rollP of rels act order ∧ cmdP k r n z d) :
    CallsT Try.prog [] F.spec_RollApply [.agg [.v (.int .i64 of), .sl false k0 rels.length 5 (rowT relC rels), .v (.int .i64 act), .sl false k1 order.length 1 (rowT i64C order)], .agg [.v (.int .i64 k), .v (.int .i64 r), .v (.int .i64 n), .v (.int .i64 z), .v (.string d)]] (.tup [rollA (applyR of rels act order k r n z d).1, .v (.int .i64 ((applyR of rels act order k r n z d).2))]) (rollB (applyR of rels act order k r n z d).1) := by
  have hlr := rels_len hpre
  have hlo : order.length ≤ 1048576 := by
    have h3 := sum_nn totRelV_nn rels
    have h6 : totIS order = order.length := rfl
    unfold totRoll totRelS at hpre
    omega
  refine fnT C.spec_RollApply ?_
  refine run ?_
  refine r_ifd (fun h => ?_) (fun h => ?_)
  · exact absurd hok (by clear hok; grind)
  refine runC ?_
  refine r_callp true (spec_l7Copy 1 1 of rels act order hpre) ?_
  refine run ?_
  refine r_ifd (fun h1 => ?_) (fun h1 => ?_)
  · rw [show applyR of rels act order k r n z d = (⟨of, rels, act, order⟩, 0) from if_pos h1]
    dsimp only [rollA, rollB]
    refine run ?_
    exact r_end [3, 4] [] (hres := by (simp only [go_sem, ↓reduceIte, Nat.reduceEqDiff, Nat.reduceMul, Nat.reduceAdd, Nat.reduceSub, Nat.reduceLT, Nat.reduceGT, Nat.reduceLeDiff, Nat.reduceBEq, Int.reduceLT, Int.reduceLE, Int.reduceNe, Int.reduceEq, Int.reduceToNat, Int.reduceAdd, Int.reduceSub, Int.reduceMul, Int.reduceNeg, Nat.reducePow, Int.reducePow, Nat.reduceSubDiff, decide_true, decide_false, reduceCtorEq, or_self, or_false, false_or, or_true, true_or, if_false, gt_iff_lt, ge_iff_le, ne_eq, not_true_eq_false, not_false_eq_true, and_self, beq_self_eq_true, Bool.false_eq_true]; try (repeat (first | exact True.intro | exact Wk.refl _ | exact Wk.nilR _ _ _ | exact Wk.nil _ _ | exact Wk.dead _ | exact Wk.bT (by assumption) | exact Wk.bF (by assumption) | exact Wk.eqI (by omega) | exact WkS.refl _ | exact Wks.same _ | exact Wks.nil | exact WkS.nil | refine And.intro ?_ ?_ | refine Wk.aggs ?_ | refine Wk.tups ?_ | refine Wks.cons ?_ ?_ | refine WkS.cons (by first | exact fun _ => rfl | exact fun h => absurd h Bool.false_ne_true) ?_ ?_ ?_ | assumption | exact (fun h => h) | exact (fun h => absurd h Bool.false_ne_true) | intro _))))
  refine run ?_
  refine r_ifd (fun h2 => ?_) (fun h2 => ?_)
  · have ea : ∀ x, applyR of rels act order k r n z d = x ↔ (if 0 < (rels.length : Int) ∧ r ≤ (nth rels ((rels.length : Int) - 1)).no then (⟨of, rels, act, order⟩, 2) else if (rels.length : Int) = 30 then (⟨of, rels, act, order⟩, 7) else ((⟨of, rels ++ [⟨r, z, d, [], 1⟩], act, order⟩ : RollV), (0 : Int))) = x := fun x => by
      unfold applyR; rw [if_neg h1, if_pos h2]
    refine run ?_
    refine r_ifd (fun h3 => ?_) (fun h3 => ?_)
    · rw [(ea _).2 (if_pos h3)]
      (dsimp only [rollA, rollB]; refine run ?_; exact r_end [3, 4] [] (hres := by (simp only [go_sem, ↓reduceIte, Nat.reduceEqDiff, Nat.reduceMul, Nat.reduceAdd, Nat.reduceSub, Nat.reduceLT, Nat.reduceGT, Nat.reduceLeDiff, Nat.reduceBEq, Int.reduceLT, Int.reduceLE, Int.reduceNe, Int.reduceEq, Int.reduceToNat, Int.reduceAdd, Int.reduceSub, Int.reduceMul, Int.reduceNeg, Nat.reducePow, Int.reducePow, Nat.reduceSubDiff, decide_true, decide_false, reduceCtorEq, or_self, or_false, false_or, or_true, true_or, if_false, gt_iff_lt, ge_iff_le, ne_eq, not_true_eq_false, not_false_eq_true, and_self, beq_self_eq_true, Bool.false_eq_true]; try (repeat (first | exact True.intro | exact Wk.refl _ | exact Wk.nilR _ _ _ | exact Wk.nil _ _ | exact Wk.dead _ | exact Wk.bT (by assumption) | exact Wk.bF (by assumption) | exact Wk.eqI (by omega) | exact WkS.refl _ | exact Wks.same _ | exact Wks.nil | exact WkS.nil | refine And.intro ?_ ?_ | refine Wk.aggs ?_ | refine Wk.tups ?_ | refine Wks.cons ?_ ?_ | refine WkS.cons (by first | exact fun _ => rfl | exact fun h => absurd h Bool.false_ne_true) ?_ ?_ ?_ | assumption | exact (fun h => h) | exact (fun h => absurd h Bool.false_ne_true) | intro _)))))
    refine run ?_
    refine r_ifd (fun h4 => ?_) (fun h4 => ?_)
    · rw [(ea _).2 ((if_neg h3).trans (if_pos h4))]
      (dsimp only [rollA, rollB]; refine run ?_; exact r_end [3, 4] [] (hres := by (simp only [go_sem, ↓reduceIte, Nat.reduceEqDiff, Nat.reduceMul, Nat.reduceAdd, Nat.reduceSub, Nat.reduceLT, Nat.reduceGT, Nat.reduceLeDiff, Nat.reduceBEq, Int.reduceLT, Int.reduceLE, Int.reduceNe, Int.reduceEq, Int.reduceToNat, Int.reduceAdd, Int.reduceSub, Int.reduceMul, Int.reduceNeg, Nat.reducePow, Int.reducePow, Nat.reduceSubDiff, decide_true, decide_false, reduceCtorEq, or_self, or_false, false_or, or_true, true_or, if_false, gt_iff_lt, ge_iff_le, ne_eq, not_true_eq_false, not_false_eq_true, and_self, beq_self_eq_true, Bool.false_eq_true]; try (repeat (first | exact True.intro | exact Wk.refl _ | exact Wk.nilR _ _ _ | exact Wk.nil _ _ | exact Wk.dead _ | exact Wk.bT (by assumption) | exact Wk.bF (by assumption) | exact Wk.eqI (by omega) | exact WkS.refl _ | exact Wks.same _ | exact Wks.nil | exact WkS.nil | refine And.intro ?_ ?_ | refine Wk.aggs ?_ | refine Wk.tups ?_ | refine Wks.cons ?_ ?_ | refine WkS.cons (by first | exact fun _ => rfl | exact fun h => absurd h Bool.false_ne_true) ?_ ?_ ?_ | assumption | exact (fun h => h) | exact (fun h => absurd h Bool.false_ne_true) | intro _)))))
    rw [(ea _).2 ((if_neg h3).trans (if_neg h4))]
    dsimp only [rollA, rollB]
    rw [nilR_ne 0 (ne_app rels _), live_app]
    by_cases hne : rels = []
    · subst hne
      rw [nilR_nil]
      refine run ?_
      refine r_apz ?_
      refine run ?_
      refine r_end [7, 4] [] (hs := ?_) (hres := by (simp only [go_sem, ↓reduceIte, Nat.reduceEqDiff, Nat.reduceMul, Nat.reduceAdd, Nat.reduceSub, Nat.reduceLT, Nat.reduceGT, Nat.reduceLeDiff, Nat.reduceBEq, Int.reduceLT, Int.reduceLE, Int.reduceNe, Int.reduceEq, Int.reduceToNat, Int.reduceAdd, Int.reduceSub, Int.reduceMul, Int.reduceNeg, Nat.reducePow, Int.reducePow, Nat.reduceSubDiff, decide_true, decide_false, reduceCtorEq, or_self, or_false, false_or, or_true, true_or, if_false, gt_iff_lt, ge_iff_le, ne_eq, not_true_eq_false, not_false_eq_true, and_self, beq_self_eq_true, Bool.false_eq_true]; try (repeat (first | exact True.intro | exact Wk.refl _ | exact Wk.nilR _ _ _ | exact Wk.nil _ _ | exact Wk.dead _ | exact Wk.bT (by assumption) | exact Wk.bF (by assumption) | exact Wk.eqI (by omega) | exact WkS.refl _ | exact Wks.same _ | exact Wks.nil | exact WkS.nil | refine And.intro ?_ ?_ | refine Wk.aggs ?_ | refine Wk.tups ?_ | refine Wks.cons ?_ ?_ | refine WkS.cons (by first | exact fun _ => rfl | exact fun h => absurd h Bool.false_ne_true) ?_ ?_ ?_ | assumption | exact (fun h => h) | exact (fun h => absurd h Bool.false_ne_true) | intro _))))
      rw [rowT_append, rowT_1]
      simp (disch := omega) only [go_sem, ↓reduceIte, Nat.reduceEqDiff, Nat.reduceMul, Nat.reduceAdd, Nat.reduceSub, Nat.reduceLT, Nat.reduceGT, Nat.reduceLeDiff, Nat.reduceBEq, Int.reduceLT, Int.reduceLE, Int.reduceNe, Int.reduceEq, Int.reduceToNat, Int.reduceAdd, Int.reduceSub, Int.reduceMul, Int.reduceNeg, Nat.reducePow, Int.reducePow, Nat.reduceSubDiff, decide_true, decide_false, reduceCtorEq, or_self, or_false, false_or, or_true, true_or, if_false, gt_iff_lt, ge_iff_le, ne_eq, not_true_eq_false, not_false_eq_true, and_self, beq_self_eq_true, Bool.false_eq_true]
      exact .cons (fun _ => rfl) (fun _ => rfl) (fun _ => .cons (.refl _) (.cons (.refl _) (.cons (.refl _) (.cons Wk.nilO (.cons (.refl _) .nil))))) (WkS.refl _)
    · rw [nilR_ne 3 hne, isE hne]
      refine run ?_
      refine r_apw ?_
      refine run ?_
      refine r_end [7, 4] [] (hs := ?_) (hres := ?_)
      · rw [rowT_append, rowT_1]
        simp (disch := omega) only [go_sem, ↓reduceIte, Nat.reduceEqDiff, Nat.reduceMul, Nat.reduceAdd, Nat.reduceSub, Nat.reduceLT, Nat.reduceGT, Nat.reduceLeDiff, Nat.reduceBEq, Int.reduceLT, Int.reduceLE, Int.reduceNe, Int.reduceEq, Int.reduceToNat, Int.reduceAdd, Int.reduceSub, Int.reduceMul, Int.reduceNeg, Nat.reducePow, Int.reducePow, Nat.reduceSubDiff, decide_true, decide_false, reduceCtorEq, or_self, or_false, false_or, or_true, true_or, if_false, gt_iff_lt, ge_iff_le, ne_eq, not_true_eq_false, not_false_eq_true, and_self, beq_self_eq_true, Bool.false_eq_true]
        exact .cons (fun _ => rfl) (fun _ => rfl) (fun _ => Wks.tail _ (.cons (.refl _) (.cons (.refl _) (.cons (.refl _) (.cons Wk.nilO (.cons (.refl _) .nil)))))) (WkS.refl _)
      · rw [List.length_append]
        (simp only [go_sem, ↓reduceIte, Nat.reduceEqDiff, Nat.reduceMul, Nat.reduceAdd, Nat.reduceSub, Nat.reduceLT, Nat.reduceGT, Nat.reduceLeDiff, Nat.reduceBEq, Int.reduceLT, Int.reduceLE, Int.reduceNe, Int.reduceEq, Int.reduceToNat, Int.reduceAdd, Int.reduceSub, Int.reduceMul, Int.reduceNeg, Nat.reducePow, Int.reducePow, Nat.reduceSubDiff, decide_true, decide_false, reduceCtorEq, or_self, or_false, false_or, or_true, true_or, if_false, gt_iff_lt, ge_iff_le, ne_eq, not_true_eq_false, not_false_eq_true, and_self, beq_self_eq_true, Bool.false_eq_true]; try (repeat (first | exact True.intro | exact Wk.refl _ | exact Wk.nilR _ _ _ | exact Wk.nil _ _ | exact Wk.dead _ | exact Wk.bT (by assumption) | exact Wk.bF (by assumption) | exact Wk.eqI (by omega) | exact WkS.refl _ | exact Wks.same _ | exact Wks.nil | exact WkS.nil | refine And.intro ?_ ?_ | refine Wk.aggs ?_ | refine Wk.tups ?_ | refine Wks.cons ?_ ?_ | refine WkS.cons (by first | exact fun _ => rfl | exact fun h => absurd h Bool.false_ne_true) ?_ ?_ ?_ | assumption | exact (fun h => h) | exact (fun h => absurd h Bool.false_ne_true) | intro _)))
  refine run ?_
  refine r_ifd (fun h3 => ?_) (fun h3 => ?_)
  · rw [show applyR of rels act order k r n z d = (⟨of, rels, act, order⟩, 3) by unfold applyR; rw [if_neg h1, if_neg h2, if_pos h3]]
    (dsimp only [rollA, rollB]; refine run ?_; exact r_end [3, 4] [] (hres := by (simp only [go_sem, ↓reduceIte, Nat.reduceEqDiff, Nat.reduceMul, Nat.reduceAdd, Nat.reduceSub, Nat.reduceLT, Nat.reduceGT, Nat.reduceLeDiff, Nat.reduceBEq, Int.reduceLT, Int.reduceLE, Int.reduceNe, Int.reduceEq, Int.reduceToNat, Int.reduceAdd, Int.reduceSub, Int.reduceMul, Int.reduceNeg, Nat.reducePow, Int.reducePow, Nat.reduceSubDiff, decide_true, decide_false, reduceCtorEq, or_self, or_false, false_or, or_true, true_or, if_false, gt_iff_lt, ge_iff_le, ne_eq, not_true_eq_false, not_false_eq_true, and_self, beq_self_eq_true, Bool.false_eq_true]; try (repeat (first | exact True.intro | exact Wk.refl _ | exact Wk.nilR _ _ _ | exact Wk.nil _ _ | exact Wk.dead _ | exact Wk.bT (by assumption) | exact Wk.bF (by assumption) | exact Wk.eqI (by omega) | exact WkS.refl _ | exact Wks.same _ | exact Wks.nil | exact WkS.nil | refine And.intro ?_ ?_ | refine Wk.aggs ?_ | refine Wk.tups ?_ | refine Wks.cons ?_ ?_ | refine WkS.cons (by first | exact fun _ => rfl | exact fun h => absurd h Bool.false_ne_true) ?_ ?_ ?_ | assumption | exact (fun h => h) | exact (fun h => absurd h Bool.false_ne_true) | intro _)))))
  have hfb := findR_b rels r
  have ea : ¬ (nth rels (findR rels r)).state = 1 ∨ applyR of rels act order k r n z d = (if k = 3 then (⟨of, rels.set (findR rels r).toNat { nth rels (findR rels r) with ready := putI (nth rels (findR rels r)).ready n }, act, order⟩, 0)
      else if k = 4 then
        if r ≤ act then (⟨of, rels, act, order⟩, 6)
        else if ((nth rels (findR rels r)).ready.length : Int) < of then (⟨of, rels, act, order⟩, 5)
        else (⟨of, rels.set (findR rels r).toNat { nth rels (findR rels r) with state := 2 }, r, order ++ [r]⟩, 0)
      else if k = 5 then (⟨of, rels.set (findR rels r).toNat { nth rels (findR rels r) with state := 3 }, act, order⟩, 0)
      else ((⟨of, rels, act, order⟩ : RollV), (0 : Int))) := by
    by_cases h4 : (nth rels (findR rels r)).state = 1
    · right; unfold applyR; rw [if_neg h1, if_neg h2, if_neg h3, if_neg (by simpa using h4)]
    · exact .inl h4
  have eb : ¬ (nth rels (findR rels r)).state = 1 → applyR of rels act order k r n z d = (⟨of, rels, act, order⟩, 4) := fun h4 => by
    unfold applyR; rw [if_neg h1, if_neg h2, if_neg h3, if_pos h4]
  generalize findR rels r = fi at *
  obtain ⟨i, rfl⟩ := Int.eq_ofNat_of_zero_le (show 0 ≤ fi by omega)
  rw [Int.toNat_natCast] at ea
  have hil : i < rels.length := by omega
  refine run ?_
  refine r_ifd (fun h4 => ?_) (fun h4 => ?_)
  · rw [eb h4]
    (dsimp only [rollA, rollB]; refine run ?_; exact r_end [3, 4] [] (hres := by (simp only [go_sem, ↓reduceIte, Nat.reduceEqDiff, Nat.reduceMul, Nat.reduceAdd, Nat.reduceSub, Nat.reduceLT, Nat.reduceGT, Nat.reduceLeDiff, Nat.reduceBEq, Int.reduceLT, Int.reduceLE, Int.reduceNe, Int.reduceEq, Int.reduceToNat, Int.reduceAdd, Int.reduceSub, Int.reduceMul, Int.reduceNeg, Nat.reducePow, Int.reducePow, Nat.reduceSubDiff, decide_true, decide_false, reduceCtorEq, or_self, or_false, false_or, or_true, true_or, if_false, gt_iff_lt, ge_iff_le, ne_eq, not_true_eq_false, not_false_eq_true, and_self, beq_self_eq_true, Bool.false_eq_true]; try (repeat (first | exact True.intro | exact Wk.refl _ | exact Wk.nilR _ _ _ | exact Wk.nil _ _ | exact Wk.dead _ | exact Wk.bT (by assumption) | exact Wk.bF (by assumption) | exact Wk.eqI (by omega) | exact WkS.refl _ | exact Wks.same _ | exact Wks.nil | exact WkS.nil | refine And.intro ?_ ?_ | refine Wk.aggs ?_ | refine Wk.tups ?_ | refine Wks.cons ?_ ?_ | refine WkS.cons (by first | exact fun _ => rfl | exact fun h => absurd h Bool.false_ne_true) ?_ ?_ ?_ | assumption | exact (fun h => h) | exact (fun h => absurd h Bool.false_ne_true) | intro _)))))
  have ea := ea.resolve_left h4
  rw [ea]
  clear ea eb
  have hne : rels ≠ [] := by intro h; rw [h] at hil; simp at hil
  rw [nilR_ne 3 hne, isE hne]
  refine run ?_
  refine r_ifd (fun h5 => ?_) (fun h5 => ?_)
  · rw [if_pos h5]
    have hput : ∀ q, CallsT Try.prog [] F.spec_l7Put [.sl false q (nth rels (i : Nat)).ready.length 1 (rowT i64C (nth rels (i : Nat)).ready), .v (.int .i64 n)] (.ref 0 [] 0 (putI (nth rels (i : Nat)).ready n).length) [⟨1, true, rowT i64C (putI (nth rels (i : Nat)).ready n)⟩] := fun q => spec_l7Put q _ _ (ready_len hpre (x := (i : Int)) (by omega) (by omega)).1
    rw [row_split (enc := relO) rels i hil]
    dsimp only [relO, List.cons_append, List.nil_append]
    have ht : (rels.take i).length = i := by rw [List.length_take]; omega
    by_cases hr : (nth rels (i : Nat)).ready.length = 0
    · have hrn := List.eq_nil_of_length_eq_zero hr
      rw [hrn] at hput ⊢
      rw [show ownC ([] : List Int).length 1 (rowT i64C []) = .sl false 0 0 1 [] from ownC_nil _ _]
      refine runC ?_
      refine r_callp true (hput 1) ?_
      refine run ?_
      refine r_stw ?_
      dsimp only [rollA, rollB]
      rw [nilR_ne 0 (ne_set hne i _), isE (ne_set hne i _), row_set relO rels i _ hil, List.length_set]
      refine run ?_
      refine r_end [7, 4] [.nest 3 [] (i * 5 + 3) 6] (hs := ?_) (hres := by (simp (disch := omega) only [go_sem, ↓reduceIte, Nat.reduceEqDiff, Nat.reduceMul, Nat.reduceAdd, Nat.reduceSub, Nat.reduceLT, Nat.reduceGT, Nat.reduceLeDiff, Nat.reduceBEq, Int.reduceLT, Int.reduceLE, Int.reduceNe, Int.reduceEq, Int.reduceToNat, Int.reduceAdd, Int.reduceSub, Int.reduceMul, Int.reduceNeg, Nat.reducePow, Int.reducePow, Nat.reduceSubDiff, decide_true, decide_false, reduceCtorEq, or_self, or_false, false_or, or_true, true_or, if_false, gt_iff_lt, ge_iff_le, ne_eq, not_true_eq_false, not_false_eq_true, and_self, beq_self_eq_true, Bool.false_eq_true]; try (repeat (first | exact True.intro | exact Wk.refl _ | exact Wk.nilR _ _ _ | exact Wk.nil _ _ | exact Wk.dead _ | exact Wk.bT (by assumption) | exact Wk.bF (by assumption) | exact Wk.eqI (by omega) | exact WkS.refl _ | exact Wks.same _ | exact Wks.nil | exact WkS.nil | refine And.intro ?_ ?_ | refine Wk.aggs ?_ | refine Wk.tups ?_ | refine Wks.cons ?_ ?_ | refine WkS.cons (by first | exact fun _ => rfl | exact fun h => absurd h Bool.false_ne_true) ?_ ?_ ?_ | assumption | exact (fun h => h) | exact (fun h => absurd h Bool.false_ne_true) | intro _))))
      dsimp only [relO]
      (simp (disch := omega) only [go_sem, ↓reduceIte, Nat.reduceEqDiff, Nat.reduceMul, Nat.reduceAdd, Nat.reduceSub, Nat.reduceLT, Nat.reduceGT, Nat.reduceLeDiff, Nat.reduceBEq, Int.reduceLT, Int.reduceLE, Int.reduceNe, Int.reduceEq, Int.reduceToNat, Int.reduceAdd, Int.reduceSub, Int.reduceMul, Int.reduceNeg, Nat.reducePow, Int.reducePow, Nat.reduceSubDiff, decide_true, decide_false, reduceCtorEq, or_self, or_false, false_or, or_true, true_or, if_false, gt_iff_lt, ge_iff_le, ne_eq, not_true_eq_false, not_false_eq_true, and_self, beq_self_eq_true, Bool.false_eq_true, List.append_assoc]; exact WkS.refl _)
    rw [ownC_pos _ _ hr]
    refine runC ?_
    refine r_callp true (hput 1) (ha := by ((simp (disch := omega) only [go_sem, ↓reduceIte, Nat.reduceEqDiff, Nat.reduceMul, Nat.reduceAdd, Nat.reduceSub, Nat.reduceLT, Nat.reduceGT, Nat.reduceLeDiff, Nat.reduceBEq, Int.reduceLT, Int.reduceLE, Int.reduceNe, Int.reduceEq, Int.reduceToNat, Int.reduceAdd, Int.reduceSub, Int.reduceMul, Int.reduceNeg, Nat.reducePow, Int.reducePow, Nat.reduceSubDiff, decide_true, decide_false, reduceCtorEq, or_self, or_false, false_or, or_true, true_or, if_false, gt_iff_lt, ge_iff_le, ne_eq, not_true_eq_false, not_false_eq_true, and_self, beq_self_eq_true, Bool.false_eq_true]) <;> with_reducible rfl)) ?_
    refine run ?_
    refine r_stw ?_
    dsimp only [rollA, rollB]
    rw [nilR_ne 0 (ne_set hne i _), isE (ne_set hne i _), row_set relO rels i _ hil, List.length_set]
    refine run ?_
    refine r_end [7, 4] [.nest 3 [] (i * 5 + 3) 6] (hs := ?_) (hres := by (simp (disch := omega) only [go_sem, ↓reduceIte, Nat.reduceEqDiff, Nat.reduceMul, Nat.reduceAdd, Nat.reduceSub, Nat.reduceLT, Nat.reduceGT, Nat.reduceLeDiff, Nat.reduceBEq, Int.reduceLT, Int.reduceLE, Int.reduceNe, Int.reduceEq, Int.reduceToNat, Int.reduceAdd, Int.reduceSub, Int.reduceMul, Int.reduceNeg, Nat.reducePow, Int.reducePow, Nat.reduceSubDiff, decide_true, decide_false, reduceCtorEq, or_self, or_false, false_or, or_true, true_or, if_false, gt_iff_lt, ge_iff_le, ne_eq, not_true_eq_false, not_false_eq_true, and_self, beq_self_eq_true, Bool.false_eq_true]; try (repeat (first | exact True.intro | exact Wk.refl _ | exact Wk.nilR _ _ _ | exact Wk.nil _ _ | exact Wk.dead _ | exact Wk.bT (by assumption) | exact Wk.bF (by assumption) | exact Wk.eqI (by omega) | exact WkS.refl _ | exact Wks.same _ | exact Wks.nil | exact WkS.nil | refine And.intro ?_ ?_ | refine Wk.aggs ?_ | refine Wk.tups ?_ | refine Wks.cons ?_ ?_ | refine WkS.cons (by first | exact fun _ => rfl | exact fun h => absurd h Bool.false_ne_true) ?_ ?_ ?_ | assumption | exact (fun h => h) | exact (fun h => absurd h Bool.false_ne_true) | intro _))))
    dsimp only [relO]
    (simp (disch := omega) only [go_sem, ↓reduceIte, Nat.reduceEqDiff, Nat.reduceMul, Nat.reduceAdd, Nat.reduceSub, Nat.reduceLT, Nat.reduceGT, Nat.reduceLeDiff, Nat.reduceBEq, Int.reduceLT, Int.reduceLE, Int.reduceNe, Int.reduceEq, Int.reduceToNat, Int.reduceAdd, Int.reduceSub, Int.reduceMul, Int.reduceNeg, Nat.reducePow, Int.reducePow, Nat.reduceSubDiff, decide_true, decide_false, reduceCtorEq, or_self, or_false, false_or, or_true, true_or, if_false, gt_iff_lt, ge_iff_le, ne_eq, not_true_eq_false, not_false_eq_true, and_self, beq_self_eq_true, Bool.false_eq_true, List.append_assoc]; exact WkS.refl _)
  refine run ?_
  refine r_ifd (fun h6 => ?_) (fun h6 => ?_)
  · rw [if_neg h5, if_pos h6]
    refine run ?_
    refine r_ifd (fun h7 => ?_) (fun h7 => ?_)
    · rw [if_pos h7]
      (dsimp only [rollA, rollB]; rw [nilR_ne 0 hne, isE hne]; refine run ?_; exact r_end [3, 4] [] (hres := by (simp only [go_sem, ↓reduceIte, Nat.reduceEqDiff, Nat.reduceMul, Nat.reduceAdd, Nat.reduceSub, Nat.reduceLT, Nat.reduceGT, Nat.reduceLeDiff, Nat.reduceBEq, Int.reduceLT, Int.reduceLE, Int.reduceNe, Int.reduceEq, Int.reduceToNat, Int.reduceAdd, Int.reduceSub, Int.reduceMul, Int.reduceNeg, Nat.reducePow, Int.reducePow, Nat.reduceSubDiff, decide_true, decide_false, reduceCtorEq, or_self, or_false, false_or, or_true, true_or, if_false, gt_iff_lt, ge_iff_le, ne_eq, not_true_eq_false, not_false_eq_true, and_self, beq_self_eq_true, Bool.false_eq_true]; try (repeat (first | exact True.intro | exact Wk.refl _ | exact Wk.nilR _ _ _ | exact Wk.nil _ _ | exact Wk.dead _ | exact Wk.bT (by assumption) | exact Wk.bF (by assumption) | exact Wk.eqI (by omega) | exact WkS.refl _ | exact Wks.same _ | exact Wks.nil | exact WkS.nil | refine And.intro ?_ ?_ | refine Wk.aggs ?_ | refine Wk.tups ?_ | refine Wks.cons ?_ ?_ | refine WkS.cons (by first | exact fun _ => rfl | exact fun h => absurd h Bool.false_ne_true) ?_ ?_ ?_ | assumption | exact (fun h => h) | exact (fun h => absurd h Bool.false_ne_true) | intro _)))))
    refine run ?_
    refine r_ifd (fun h8 => ?_) (fun h8 => ?_)
    · rw [if_neg h7, if_pos h8]
      (dsimp only [rollA, rollB]; rw [nilR_ne 0 hne, isE hne]; refine run ?_; exact r_end [3, 4] [] (hres := by (simp only [go_sem, ↓reduceIte, Nat.reduceEqDiff, Nat.reduceMul, Nat.reduceAdd, Nat.reduceSub, Nat.reduceLT, Nat.reduceGT, Nat.reduceLeDiff, Nat.reduceBEq, Int.reduceLT, Int.reduceLE, Int.reduceNe, Int.reduceEq, Int.reduceToNat, Int.reduceAdd, Int.reduceSub, Int.reduceMul, Int.reduceNeg, Nat.reducePow, Int.reducePow, Nat.reduceSubDiff, decide_true, decide_false, reduceCtorEq, or_self, or_false, false_or, or_true, true_or, if_false, gt_iff_lt, ge_iff_le, ne_eq, not_true_eq_false, not_false_eq_true, and_self, beq_self_eq_true, Bool.false_eq_true]; try (repeat (first | exact True.intro | exact Wk.refl _ | exact Wk.nilR _ _ _ | exact Wk.nil _ _ | exact Wk.dead _ | exact Wk.bT (by assumption) | exact Wk.bF (by assumption) | exact Wk.eqI (by omega) | exact WkS.refl _ | exact Wks.same _ | exact Wks.nil | exact WkS.nil | refine And.intro ?_ ?_ | refine Wk.aggs ?_ | refine Wk.tups ?_ | refine Wks.cons ?_ ?_ | refine WkS.cons (by first | exact fun _ => rfl | exact fun h => absurd h Bool.false_ne_true) ?_ ?_ ?_ | assumption | exact (fun h => h) | exact (fun h => absurd h Bool.false_ne_true) | intro _)))))
    rw [if_neg h7, if_neg h8]
    rw [row_split (enc := relO) rels i hil]
    dsimp only [relO, List.cons_append, List.nil_append]
    have ht : (rels.take i).length = i := by rw [List.length_take]; omega
    refine run ?_
    refine r_stw ?_
    refine run ?_
    dsimp only [rollA, rollB]
    rw [nilR_ne 0 (ne_set hne i _), isE (ne_set hne i _), row_set relO rels i _ hil, List.length_set]
    refine r_end [3, 7] [] (hs := ?_) (hres := by (simp only [go_sem, ↓reduceIte, Nat.reduceEqDiff, Nat.reduceMul, Nat.reduceAdd, Nat.reduceSub, Nat.reduceLT, Nat.reduceGT, Nat.reduceLeDiff, Nat.reduceBEq, Int.reduceLT, Int.reduceLE, Int.reduceNe, Int.reduceEq, Int.reduceToNat, Int.reduceAdd, Int.reduceSub, Int.reduceMul, Int.reduceNeg, Nat.reducePow, Int.reducePow, Nat.reduceSubDiff, decide_true, decide_false, reduceCtorEq, or_self, or_false, false_or, or_true, true_or, if_false, gt_iff_lt, ge_iff_le, ne_eq, not_true_eq_false, not_false_eq_true, and_self, beq_self_eq_true, Bool.false_eq_true]; try (repeat (first | exact True.intro | exact Wk.refl _ | exact Wk.nilR _ _ _ | exact Wk.nil _ _ | exact Wk.dead _ | exact Wk.bT (by assumption) | exact Wk.bF (by assumption) | exact Wk.eqI (by omega) | exact WkS.refl _ | exact Wks.same _ | exact Wks.nil | exact WkS.nil | refine And.intro ?_ ?_ | refine Wk.aggs ?_ | refine Wk.tups ?_ | refine Wks.cons ?_ ?_ | refine WkS.cons (by first | exact fun _ => rfl | exact fun h => absurd h Bool.false_ne_true) ?_ ?_ ?_ | assumption | exact (fun h => h) | exact (fun h => absurd h Bool.false_ne_true) | intro _))))
    dsimp only [relO]
    (simp (disch := omega) only [go_sem, ↓reduceIte, Nat.reduceEqDiff, Nat.reduceMul, Nat.reduceAdd, Nat.reduceSub, Nat.reduceLT, Nat.reduceGT, Nat.reduceLeDiff, Nat.reduceBEq, Int.reduceLT, Int.reduceLE, Int.reduceNe, Int.reduceEq, Int.reduceToNat, Int.reduceAdd, Int.reduceSub, Int.reduceMul, Int.reduceNeg, Nat.reducePow, Int.reducePow, Nat.reduceSubDiff, decide_true, decide_false, reduceCtorEq, or_self, or_false, false_or, or_true, true_or, if_false, gt_iff_lt, ge_iff_le, ne_eq, not_true_eq_false, not_false_eq_true, and_self, beq_self_eq_true, Bool.false_eq_true, List.append_assoc]; exact WkS.refl _)
  refine run ?_
  refine r_ifd (fun h7 => ?_) (fun h7 => ?_)
  · rw [if_neg h5, if_neg h6, if_pos h7]
    rw [row_split (enc := relO) rels i hil]
    dsimp only [relO, List.cons_append, List.nil_append]
    have ht : (rels.take i).length = i := by rw [List.length_take]; omega
    refine run ?_
    refine r_stw ?_
    refine run ?_
    dsimp only [rollA, rollB]
    rw [nilR_ne 0 (ne_set hne i _), isE (ne_set hne i _), row_set relO rels i _ hil, List.length_set]
    refine r_end [3, 4] [] (hs := ?_) (hres := by (simp only [go_sem, ↓reduceIte, Nat.reduceEqDiff, Nat.reduceMul, Nat.reduceAdd, Nat.reduceSub, Nat.reduceLT, Nat.reduceGT, Nat.reduceLeDiff, Nat.reduceBEq, Int.reduceLT, Int.reduceLE, Int.reduceNe, Int.reduceEq, Int.reduceToNat, Int.reduceAdd, Int.reduceSub, Int.reduceMul, Int.reduceNeg, Nat.reducePow, Int.reducePow, Nat.reduceSubDiff, decide_true, decide_false, reduceCtorEq, or_self, or_false, false_or, or_true, true_or, if_false, gt_iff_lt, ge_iff_le, ne_eq, not_true_eq_false, not_false_eq_true, and_self, beq_self_eq_true, Bool.false_eq_true]; try (repeat (first | exact True.intro | exact Wk.refl _ | exact Wk.nilR _ _ _ | exact Wk.nil _ _ | exact Wk.dead _ | exact Wk.bT (by assumption) | exact Wk.bF (by assumption) | exact Wk.eqI (by omega) | exact WkS.refl _ | exact Wks.same _ | exact Wks.nil | exact WkS.nil | refine And.intro ?_ ?_ | refine Wk.aggs ?_ | refine Wk.tups ?_ | refine Wks.cons ?_ ?_ | refine WkS.cons (by first | exact fun _ => rfl | exact fun h => absurd h Bool.false_ne_true) ?_ ?_ ?_ | assumption | exact (fun h => h) | exact (fun h => absurd h Bool.false_ne_true) | intro _))))
    dsimp only [relO]
    (simp (disch := omega) only [go_sem, ↓reduceIte, Nat.reduceEqDiff, Nat.reduceMul, Nat.reduceAdd, Nat.reduceSub, Nat.reduceLT, Nat.reduceGT, Nat.reduceLeDiff, Nat.reduceBEq, Int.reduceLT, Int.reduceLE, Int.reduceNe, Int.reduceEq, Int.reduceToNat, Int.reduceAdd, Int.reduceSub, Int.reduceMul, Int.reduceNeg, Nat.reducePow, Int.reducePow, Nat.reduceSubDiff, decide_true, decide_false, reduceCtorEq, or_self, or_false, false_or, or_true, true_or, if_false, gt_iff_lt, ge_iff_le, ne_eq, not_true_eq_false, not_false_eq_true, and_self, beq_self_eq_true, Bool.false_eq_true, List.append_assoc]; exact WkS.refl _)
  rw [if_neg h5, if_neg h6, if_neg h7]
  (dsimp only [rollA, rollB]; rw [nilR_ne 0 hne, isE hne]; refine run ?_; exact r_end [3, 4] [] (hres := by (simp only [go_sem, ↓reduceIte, Nat.reduceEqDiff, Nat.reduceMul, Nat.reduceAdd, Nat.reduceSub, Nat.reduceLT, Nat.reduceGT, Nat.reduceLeDiff, Nat.reduceBEq, Int.reduceLT, Int.reduceLE, Int.reduceNe, Int.reduceEq, Int.reduceToNat, Int.reduceAdd, Int.reduceSub, Int.reduceMul, Int.reduceNeg, Nat.reducePow, Int.reducePow, Nat.reduceSubDiff, decide_true, decide_false, reduceCtorEq, or_self, or_false, false_or, or_true, true_or, if_false, gt_iff_lt, ge_iff_le, ne_eq, not_true_eq_false, not_false_eq_true, and_self, beq_self_eq_true, Bool.false_eq_true]; try (repeat (first | exact True.intro | exact Wk.refl _ | exact Wk.nilR _ _ _ | exact Wk.nil _ _ | exact Wk.dead _ | exact Wk.bT (by assumption) | exact Wk.bF (by assumption) | exact Wk.eqI (by omega) | exact WkS.refl _ | exact Wks.same _ | exact Wks.nil | exact WkS.nil | refine And.intro ?_ ?_ | refine Wk.aggs ?_ | refine Wk.tups ?_ | refine Wks.cons ?_ ?_ | refine WkS.cons (by first | exact fun _ => rfl | exact fun h => absurd h Bool.false_ne_true) ?_ ?_ ?_ | assumption | exact (fun h => h) | exact (fun h => absurd h Bool.false_ne_true) | intro _)))))

end Go.TL

/- What the reference's RollRun gives for what is right: rows that may grow. No conditions but those that are written. -/
namespace Go.TL
set_option linter.unusedSimpArgs false
open Go.Proofs Go.RowKit
attribute [local irreducible] wpOpsT wpT EndT Ex.seq Ex.block W

theorem runSt_x {x : RollV} : ∀ {l : List CmdV}, rollP x.of x.rels x.act x.order → rollP (runSt x l).1.of (runSt x l).1.rels (runSt x l).1.act (runSt x l).1.order := by
  have key : ∀ (l : List CmdV) (s : RollV × List Int), rollP s.1.of s.1.rels s.1.act s.1.order → rollP (l.foldl runStep s).1.of (l.foldl runStep s).1.rels (l.foldl runStep s).1.act (l.foldl runStep s).1.order := by
    intro l
    induction l with
    | nil => intro s h; exact h
    | cons y l ih =>
      intro s h
      rw [List.foldl_cons]
      refine ih _ ?_
      unfold runStep
      dsimp only
      split
      · rename_i hz
        unfold applyC applyP at hz ⊢
        split at hz
        · rename_i hh
          rw [if_pos hh]
          exact (roll_apply hh.1 hh.2).1
        · cases hz
      · exact h
  intro l h
  exact key l (x, []) h

def runH (P0 : Root) (s : RollV × List Int) : Store := [P0, ⟨0, true, [.v (.int .i64 0), .v (.slice none 0 0), .v (.int .i64 0), .v (.slice none 0 0)]⟩, ⟨1, true, rowT i64C s.2⟩, ⟨0, true, [.v (.int .i64 s.1.of), nilR 4 s.1.rels, .v (.int .i64 s.1.act), .ref 5 [] 0 s.1.order.length]⟩, ⟨5, !s.1.rels.isEmpty, rowT relO s.1.rels⟩, ⟨1, true, rowT i64C s.1.order⟩]

set_option linter.unusedSimpArgs false in
set_option maxHeartbeats 8000000 in
theorem spec_RollRunS (k0 k1 k2 : Nat) (of : Int) (rels : List RelV) (act : Int) (order : List Int) (l : List CmdV) (hpre : totRoll rels order ≤ 1048576) (hok : rollP of rels act order ∧ (l.length : Int) ≤ 80) :
    CallsT Try.prog [] F.spec_RollRun [.agg [.v (.int .i64 of), .sl false k0 rels.length 5 (rowT relC rels), .v (.int .i64 act), .sl false k1 order.length 1 (rowT i64C order)], .sl false k2 l.length 5 (rowT cmdC l)] (.tup [rollA (runSt ⟨of, rels, act, order⟩ l).1, .ref 2 [] 0 (runSt ⟨of, rels, act, order⟩ l).2.length]) (rollB (runSt ⟨of, rels, act, order⟩ l).1 ++ [⟨1, true, rowT i64C (runSt ⟨of, rels, act, order⟩ l).2⟩]) := by
  have hlr := rels_len hpre
  have hb := bnd_tot hpre
  refine fnT C.spec_RollRun ?_
  refine runC ?_
  refine r_callp true (spec_l7Copy 1 1 of rels act order hpre) ?_
  refine run ?_
  refine r_ifd (fun h => ?_) (fun h => ?_)
  · exact absurd hok (by clear hok; grind)
  have htot := tot_ok hok.1
  refine run ?_
  refine r_for l.length (fun i => [(1, .sl false k2 l.length 5 (rowT cmdC l)), (2, .ptr 0 [] 0), (4, .ptr 1 [] 0), (6, .ref 2 [] 0 (runSt ⟨of, rels, act, order⟩ (l.take i)).2.length), (7, .ptr 3 [] 0), (8, .v (.int .i64 i))]) (fun i => runH ⟨0, true, [.v (.int .i64 of), .sl false k0 rels.length 5 (rowT relC rels), .v (.int .i64 act), .sl false k1 order.length 1 (rowT i64C order)]⟩ (runSt ⟨of, rels, act, order⟩ (l.take i))) (fun _ => True) [0, 1, 2, 5, 3, 4] [] trivial (Gc.of (hf := ?_) (hs := ?_)) (fun i hi _ => ?_) (fun _ => ?_)
  · simp only [List.take_zero, runSt, List.foldl_nil]
    (simp only [go_sem, ↓reduceIte, Nat.reduceEqDiff, Nat.reduceMul, Nat.reduceAdd, Nat.reduceSub, Nat.reduceLT, Nat.reduceGT, Nat.reduceLeDiff, Nat.reduceBEq, Int.reduceLT, Int.reduceLE, Int.reduceNe, Int.reduceEq, Int.reduceToNat, Int.reduceAdd, Int.reduceSub, Int.reduceMul, Int.reduceNeg, Nat.reducePow, Int.reducePow, Nat.reduceSubDiff, decide_true, decide_false, reduceCtorEq, or_self, or_false, false_or, or_true, true_or, if_false, gt_iff_lt, ge_iff_le, ne_eq, not_true_eq_false, not_false_eq_true, and_self, beq_self_eq_true, Bool.false_eq_true]; try (repeat (first | exact True.intro | exact Wk.refl _ | exact Wk.nilR _ _ _ | exact Wk.nil _ _ | exact Wk.dead _ | exact Wk.bT (by assumption) | exact Wk.bF (by assumption) | exact Wk.eqI (by omega) | exact WkS.refl _ | exact Wks.same _ | exact Wks.nil | exact WkS.nil | refine And.intro ?_ ?_ | refine Wk.aggs ?_ | refine Wk.tups ?_ | refine Wks.cons ?_ ?_ | refine WkS.cons (by first | exact fun _ => rfl | exact fun h => absurd h Bool.false_ne_true) ?_ ?_ ?_ | assumption | exact (fun h => h) | exact (fun h => absurd h Bool.false_ne_true) | intro _)))
  · simp only [List.take_zero, runSt, List.foldl_nil, runH]
    (simp only [go_sem, ↓reduceIte, Nat.reduceEqDiff, Nat.reduceMul, Nat.reduceAdd, Nat.reduceSub, Nat.reduceLT, Nat.reduceGT, Nat.reduceLeDiff, Nat.reduceBEq, Int.reduceLT, Int.reduceLE, Int.reduceNe, Int.reduceEq, Int.reduceToNat, Int.reduceAdd, Int.reduceSub, Int.reduceMul, Int.reduceNeg, Nat.reducePow, Int.reducePow, Nat.reduceSubDiff, decide_true, decide_false, reduceCtorEq, or_self, or_false, false_or, or_true, true_or, if_false, gt_iff_lt, ge_iff_le, ne_eq, not_true_eq_false, not_false_eq_true, and_self, beq_self_eq_true, Bool.false_eq_true]; try (repeat (first | exact True.intro | exact Wk.refl _ | exact Wk.nilR _ _ _ | exact Wk.nil _ _ | exact Wk.dead _ | exact Wk.bT (by assumption) | exact Wk.bF (by assumption) | exact Wk.eqI (by omega) | exact WkS.refl _ | exact Wks.same _ | exact Wks.nil | exact WkS.nil | refine And.intro ?_ ?_ | refine Wk.aggs ?_ | refine Wk.tups ?_ | refine Wks.cons ?_ ?_ | refine WkS.cons (by first | exact fun _ => rfl | exact fun h => absurd h Bool.false_ne_true) ?_ ?_ ?_ | assumption | exact (fun h => h) | exact (fun h => absurd h Bool.false_ne_true) | intro _)))
  · have hst := runSt_s ⟨of, rels, act, order⟩ hi
    have htt := tot_run ⟨of, rels, act, order⟩ (l.take i)
    have hlt : (l.take i).length = i := by rw [List.length_take]; omega
    have hcl := runSt_len ⟨of, rels, act, order⟩ (l.take i)
    dsimp only at htt
    have hsx := (runSt_x (l := l.take i) (x := ⟨of, rels, act, order⟩) hok.1)
    generalize runSt ⟨of, rels, act, order⟩ (l.take i) = s at *
    by_cases hz : (applyC s.1 (nth l (i : Nat))).2 = 0
    · have hcp : cmdP (nth l (i : Nat)).kind (nth l (i : Nat)).rel (nth l (i : Nat)).node (nth l (i : Nat)).size (nth l (i : Nat)).dig := by
        unfold applyC applyP at hz
        split at hz
        · rename_i hh; exact hh.2
        · cases hz
      have hsx : rollP s.1.of s.1.rels s.1.act s.1.order := hsx
      have hcall := spec_RollApplyS 1 1 s.1.of s.1.rels s.1.act s.1.order (nth l (i : Nat)).kind (nth l (i : Nat)).rel (nth l (i : Nat)).node (nth l (i : Nat)).size (nth l (i : Nat)).dig (bnd_tot (by omega)) (by omega) ⟨hsx, hcp⟩
      have hap : applyR s.1.of s.1.rels s.1.act s.1.order (nth l (i : Nat)).kind (nth l (i : Nat)).rel (nth l (i : Nat)).node (nth l (i : Nat)).size (nth l (i : Nat)).dig = applyC s.1 (nth l (i : Nat)) := (if_pos ⟨hsx, hcp⟩).symm
      have hstep : runStep s (nth l (i : Nat)) = (if (applyC s.1 (nth l (i : Nat))).2 = 0 then (applyC s.1 (nth l (i : Nat))).1 else s.1, s.2 ++ [(applyC s.1 (nth l (i : Nat))).2]) := rfl
      rw [hap] at hcall
      rw [if_pos hz] at hstep
      rw [hst, hstep]
      clear hst hstep hap
      generalize applyC s.1 (nth l (i : Nat)) = p at *
      dsimp only [rollA, rollB] at hcall
      dsimp only [runH]
      refine runS ?_
      refine r_any [(1, .sl false k2 l.length 5 (rowT cmdC l)), (2, .ptr 0 [] 0), (4, .ptr 1 [] 0), (6, .ref 2 [] 0 s.2.length), (7, .ptr 3 [] 0), (8, .v (.int .i64 i)), (9, .ptr 6 [] 0), (10, .v (.int .i64 p.2))] [⟨0, true, [.v (.int .i64 of), .sl false k0 rels.length 5 (rowT relC rels), .v (.int .i64 act), .sl false k1 order.length 1 (rowT i64C order)]⟩, ⟨0, true, [.v (.int .i64 0), .v (.slice none 0 0), .v (.int .i64 0), .v (.slice none 0 0)]⟩, ⟨1, true, rowT i64C s.2⟩, ⟨0, true, [.v (.int .i64 s.1.of), nilR 4 s.1.rels, .v (.int .i64 s.1.act), .ref 5 [] 0 s.1.order.length]⟩, ⟨5, !s.1.rels.isEmpty, rowT relO s.1.rels⟩, ⟨1, true, rowT i64C s.1.order⟩, ⟨0, true, [.v (.int .i64 p.1.of), nilR 7 p.1.rels, .v (.int .i64 p.1.act), .ref 8 [] 0 p.1.order.length]⟩, ⟨5, !p.1.rels.isEmpty, rowT relO p.1.rels⟩, ⟨1, true, rowT i64C p.1.order⟩] ?_ ?_
      rotate_left
      · refine a_swap 8 ?_
        refine a_swap 7 ?_
        refine a_swap 6 ?_
        refine a_two 5 ?_ ?_
        · refine any_lin ?_
          refine runC ?_
          refine r_callp true hcall ?_ (ts1 := [.agg [.v (.int .i64 s.1.of), rowR 5 4 s.1.rels, .v (.int .i64 s.1.act), .ref 5 [] 0 s.1.order.length], .agg [.v (.int .i64 ((nth l (i : Nat)).kind)), .v (.int .i64 ((nth l (i : Nat)).rel)), .v (.int .i64 ((nth l (i : Nat)).node)), .v (.int .i64 ((nth l (i : Nat)).size)), .v (.string ((nth l (i : Nat)).dig))]]) (hk := by (simp only [go_sem, ↓reduceIte, Nat.reduceEqDiff, Nat.reduceMul, Nat.reduceAdd, Nat.reduceSub, Nat.reduceLT, Nat.reduceGT, Nat.reduceLeDiff, Nat.reduceBEq, Int.reduceLT, Int.reduceLE, Int.reduceNe, Int.reduceEq, Int.reduceToNat, Int.reduceAdd, Int.reduceSub, Int.reduceMul, Int.reduceNeg, Nat.reducePow, Int.reducePow, Nat.reduceSubDiff, decide_true, decide_false, reduceCtorEq, or_self, or_false, false_or, or_true, true_or, if_false, gt_iff_lt, ge_iff_le, ne_eq, not_true_eq_false, not_false_eq_true, and_self, beq_self_eq_true, Bool.false_eq_true]; try (repeat (first | exact True.intro | exact Wk.refl _ | exact Wk.nilR _ _ _ | exact Wk.nil _ _ | exact Wk.dead _ | exact Wk.bT (by assumption) | exact Wk.bF (by assumption) | exact Wk.eqI (by omega) | exact WkS.refl _ | exact Wks.same _ | exact Wks.nil | exact WkS.nil | refine And.intro ?_ ?_ | refine Wk.aggs ?_ | refine Wk.tups ?_ | refine Wks.cons ?_ ?_ | refine WkS.cons (by first | exact fun _ => rfl | exact fun h => absurd h Bool.false_ne_true) ?_ ?_ ?_ | assumption | exact (fun h => h) | exact (fun h => absurd h Bool.false_ne_true) | intro _))))
          refine run ?_
          exact ⟨[0, 1, 2, 3, 4, 5, 8, 6, 7], [], Gc.of⟩
        · refine any_lin ?_
          refine runC ?_
          refine r_callp true hcall ?_ (ts1 := [.agg [.v (.int .i64 s.1.of), rowR 5 4 s.1.rels, .v (.int .i64 s.1.act), .ref 5 [] 0 s.1.order.length], .agg [.v (.int .i64 ((nth l (i : Nat)).kind)), .v (.int .i64 ((nth l (i : Nat)).rel)), .v (.int .i64 ((nth l (i : Nat)).node)), .v (.int .i64 ((nth l (i : Nat)).size)), .v (.string ((nth l (i : Nat)).dig))]]) (hk := by (simp only [go_sem, ↓reduceIte, Nat.reduceEqDiff, Nat.reduceMul, Nat.reduceAdd, Nat.reduceSub, Nat.reduceLT, Nat.reduceGT, Nat.reduceLeDiff, Nat.reduceBEq, Int.reduceLT, Int.reduceLE, Int.reduceNe, Int.reduceEq, Int.reduceToNat, Int.reduceAdd, Int.reduceSub, Int.reduceMul, Int.reduceNeg, Nat.reducePow, Int.reducePow, Nat.reduceSubDiff, decide_true, decide_false, reduceCtorEq, or_self, or_false, false_or, or_true, true_or, if_false, gt_iff_lt, ge_iff_le, ne_eq, not_true_eq_false, not_false_eq_true, and_self, beq_self_eq_true, Bool.false_eq_true]; try (repeat (first | exact True.intro | exact Wk.refl _ | exact Wk.nilR _ _ _ | exact Wk.nil _ _ | exact Wk.dead _ | exact Wk.bT (by assumption) | exact Wk.bF (by assumption) | exact Wk.eqI (by omega) | exact WkS.refl _ | exact Wks.same _ | exact Wks.nil | exact WkS.nil | refine And.intro ?_ ?_ | refine Wk.aggs ?_ | refine Wk.tups ?_ | refine Wks.cons ?_ ?_ | refine WkS.cons (by first | exact fun _ => rfl | exact fun h => absurd h Bool.false_ne_true) ?_ ?_ ?_ | assumption | exact (fun h => h) | exact (fun h => absurd h Bool.false_ne_true) | intro _))))
          refine run ?_
          exact ⟨[0, 1, 2, 3, 4, 5, 6, 7, 8], [], Gc.of⟩
      refine run ?_
      exact ⟨[0, 1, 10, 3, 7, 8], [], Gc.of, trivial⟩
    · have hcall := spec_RollApply 1 1 s.1.of s.1.rels s.1.act s.1.order (nth l (i : Nat)).kind (nth l (i : Nat)).rel (nth l (i : Nat)).node (nth l (i : Nat)).size (nth l (i : Nat)).dig (bnd_tot (by omega)) (by omega)
      have hap : applyP s.1.of s.1.rels s.1.act s.1.order (nth l (i : Nat)).kind (nth l (i : Nat)).rel (nth l (i : Nat)).node (nth l (i : Nat)).size (nth l (i : Nat)).dig = applyC s.1 (nth l (i : Nat)) := rfl
      have hstep : runStep s (nth l (i : Nat)) = (if (applyC s.1 (nth l (i : Nat))).2 = 0 then (applyC s.1 (nth l (i : Nat))).1 else s.1, s.2 ++ [(applyC s.1 (nth l (i : Nat))).2]) := rfl
      rw [hap] at hcall
      rw [if_neg hz] at hstep
      rw [hst, hstep]
      clear hst hstep hap
      generalize applyC s.1 (nth l (i : Nat)) = p at *
      dsimp only [rollT, rollS] at hcall
      dsimp only [runH]
      refine runS ?_
      refine r_any [(1, .sl false k2 l.length 5 (rowT cmdC l)), (2, .ptr 0 [] 0), (4, .ptr 1 [] 0), (6, .ref 2 [] 0 s.2.length), (7, .ptr 3 [] 0), (8, .v (.int .i64 i)), (9, .ptr 6 [] 0), (10, .v (.int .i64 p.2))] [⟨0, true, [.v (.int .i64 of), .sl false k0 rels.length 5 (rowT relC rels), .v (.int .i64 act), .sl false k1 order.length 1 (rowT i64C order)]⟩, ⟨0, true, [.v (.int .i64 0), .v (.slice none 0 0), .v (.int .i64 0), .v (.slice none 0 0)]⟩, ⟨1, true, rowT i64C s.2⟩, ⟨0, true, [.v (.int .i64 s.1.of), nilR 4 s.1.rels, .v (.int .i64 s.1.act), .ref 5 [] 0 s.1.order.length]⟩, ⟨5, !s.1.rels.isEmpty, rowT relO s.1.rels⟩, ⟨1, true, rowT i64C s.1.order⟩, ⟨0, true, [.v (.int .i64 p.1.of), rowR 5 7 p.1.rels, .v (.int .i64 p.1.act), rowR 1 8 p.1.order]⟩, ⟨5, !p.1.rels.isEmpty, rowT relO p.1.rels⟩, ⟨1, !p.1.order.isEmpty, rowT i64C p.1.order⟩] ?_ ?_
      rotate_left
      · refine a_swap 8 ?_
        refine a_swap 7 ?_
        refine a_swap 6 ?_
        refine a_two 5 ?_ ?_
        · refine any_lin ?_
          refine runC ?_
          refine r_callp true hcall ?_ (ts1 := [.agg [.v (.int .i64 s.1.of), rowR 5 4 s.1.rels, .v (.int .i64 s.1.act), .ref 5 [] 0 s.1.order.length], .agg [.v (.int .i64 ((nth l (i : Nat)).kind)), .v (.int .i64 ((nth l (i : Nat)).rel)), .v (.int .i64 ((nth l (i : Nat)).node)), .v (.int .i64 ((nth l (i : Nat)).size)), .v (.string ((nth l (i : Nat)).dig))]]) (hk := by (simp only [go_sem, ↓reduceIte, Nat.reduceEqDiff, Nat.reduceMul, Nat.reduceAdd, Nat.reduceSub, Nat.reduceLT, Nat.reduceGT, Nat.reduceLeDiff, Nat.reduceBEq, Int.reduceLT, Int.reduceLE, Int.reduceNe, Int.reduceEq, Int.reduceToNat, Int.reduceAdd, Int.reduceSub, Int.reduceMul, Int.reduceNeg, Nat.reducePow, Int.reducePow, Nat.reduceSubDiff, decide_true, decide_false, reduceCtorEq, or_self, or_false, false_or, or_true, true_or, if_false, gt_iff_lt, ge_iff_le, ne_eq, not_true_eq_false, not_false_eq_true, and_self, beq_self_eq_true, Bool.false_eq_true]; try (repeat (first | exact True.intro | exact Wk.refl _ | exact Wk.nilR _ _ _ | exact Wk.nil _ _ | exact Wk.dead _ | exact Wk.bT (by assumption) | exact Wk.bF (by assumption) | exact Wk.eqI (by omega) | exact WkS.refl _ | exact Wks.same _ | exact Wks.nil | exact WkS.nil | refine And.intro ?_ ?_ | refine Wk.aggs ?_ | refine Wk.tups ?_ | refine Wks.cons ?_ ?_ | refine WkS.cons (by first | exact fun _ => rfl | exact fun h => absurd h Bool.false_ne_true) ?_ ?_ ?_ | assumption | exact (fun h => h) | exact (fun h => absurd h Bool.false_ne_true) | intro _))))
          refine run ?_
          exact ⟨[0, 1, 2, 3, 4, 5, 8, 6, 7], [], Gc.of⟩
        · refine any_lin ?_
          refine runC ?_
          refine r_callp true hcall ?_ (ts1 := [.agg [.v (.int .i64 s.1.of), rowR 5 4 s.1.rels, .v (.int .i64 s.1.act), .ref 5 [] 0 s.1.order.length], .agg [.v (.int .i64 ((nth l (i : Nat)).kind)), .v (.int .i64 ((nth l (i : Nat)).rel)), .v (.int .i64 ((nth l (i : Nat)).node)), .v (.int .i64 ((nth l (i : Nat)).size)), .v (.string ((nth l (i : Nat)).dig))]]) (hk := by (simp only [go_sem, ↓reduceIte, Nat.reduceEqDiff, Nat.reduceMul, Nat.reduceAdd, Nat.reduceSub, Nat.reduceLT, Nat.reduceGT, Nat.reduceLeDiff, Nat.reduceBEq, Int.reduceLT, Int.reduceLE, Int.reduceNe, Int.reduceEq, Int.reduceToNat, Int.reduceAdd, Int.reduceSub, Int.reduceMul, Int.reduceNeg, Nat.reducePow, Int.reducePow, Nat.reduceSubDiff, decide_true, decide_false, reduceCtorEq, or_self, or_false, false_or, or_true, true_or, if_false, gt_iff_lt, ge_iff_le, ne_eq, not_true_eq_false, not_false_eq_true, and_self, beq_self_eq_true, Bool.false_eq_true]; try (repeat (first | exact True.intro | exact Wk.refl _ | exact Wk.nilR _ _ _ | exact Wk.nil _ _ | exact Wk.dead _ | exact Wk.bT (by assumption) | exact Wk.bF (by assumption) | exact Wk.eqI (by omega) | exact WkS.refl _ | exact Wks.same _ | exact Wks.nil | exact WkS.nil | refine And.intro ?_ ?_ | refine Wk.aggs ?_ | refine Wk.tups ?_ | refine Wks.cons ?_ ?_ | refine WkS.cons (by first | exact fun _ => rfl | exact fun h => absurd h Bool.false_ne_true) ?_ ?_ ?_ | assumption | exact (fun h => h) | exact (fun h => absurd h Bool.false_ne_true) | intro _))))
          refine run ?_
          exact ⟨[0, 1, 2, 3, 4, 5, 6, 7, 8], [], Gc.of⟩
      refine run ?_
      exact ⟨[0, 1, 10, 3, 4, 5], [], Gc.of, trivial⟩
  · rw [List.take_length]
    dsimp only [rollA, rollB, runH, List.cons_append, List.nil_append]
    refine run ?_
    exact r_end [4, 5, 2] []

end Go.TL
