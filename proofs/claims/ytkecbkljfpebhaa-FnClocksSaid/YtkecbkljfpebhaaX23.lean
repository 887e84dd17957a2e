/- Sources that are drawn: that there is one, whatever the bytes. No conditions but those that are written. -/
import Derived.Test.YtkecbkljfpebhaaX22
namespace Go.TL
set_option linter.unusedSimpArgs false
open Go.Proofs Go.RowKit
attribute [local irreducible] wpOpsT wpT EndT Ex.seq Ex.block W

theorem take_ru1 (y : RuleV) (o : List RuleV) : (rowT ruleC (y :: o)).take ((o.length + 1) * 9) = rowT ruleC (y :: o) :=
  List.take_of_length_le (by rw [len_row, List.length_cons]; exact Nat.le_refl _)
theorem take_zo1 (y : ZoneV) (o : List ZoneV) : (rowT zoneC (y :: o)).take ((o.length + 1) * 3) = rowT zoneC (y :: o) :=
  List.take_of_length_le (by rw [len_row, List.length_cons]; exact Nat.le_refl _)
theorem take_li1 (y : LinkV) (o : List LinkV) : (rowT linkC (y :: o)).take ((o.length + 1) * 2) = rowT linkC (y :: o) :=
  List.take_of_length_le (by rw [len_row, List.length_cons]; exact Nat.le_refl _)
theorem take_zo2 (y z : ZoneV) (o : List ZoneV) : (rowT zoneC (y :: (o ++ [z]))).take ((o.length + 1 + 1) * 3) = rowT zoneC (y :: (o ++ [z])) :=
  List.take_of_length_le (by rw [len_row, List.length_cons, List.length_append]; exact Nat.le_refl _)
theorem take_li2 (y z : LinkV) (o : List LinkV) : (rowT linkC (y :: (o ++ [z]))).take ((o.length + 1 + 1) * 2) = rowT linkC (y :: (o ++ [z])) :=
  List.take_of_length_le (by rw [len_row, List.length_cons, List.length_append]; exact Nat.le_refl _)
theorem mo_le (n : Nat) : ((n + 1) * 9 ≤ n * 9 + 1 + 1 + 1 + 1 + 1 + 1 + 1 + 1 + 1) = True := eq_true (by omega)
theorem take_mo (t1 t2 t3 t4 t5 t6 t7 t8 t9 : T) (o : List RuleV) : List.take ((o.length + 1) * 9) (t1 :: t2 :: t3 :: t4 :: t5 :: t6 :: t7 :: t8 :: t9 :: rowT ruleC o) = t1 :: t2 :: t3 :: t4 :: t5 :: t6 :: t7 :: t8 :: t9 :: rowT ruleC o :=
  List.take_of_length_le (by simp only [List.length_cons, len_row]; omega)
attribute [local go_sem] take_ru1 take_zo1 take_li1 take_zo2 take_li2 mo_le take_mo List.length_append Nat.zero_add
theorem month_row (x : RuleV) (g : Int) (xs : List RuleV) : rowT ruleC ({ x with month := g } :: xs) = .v (.int .i64 x.name) :: .v (.int .i64 x.fr) :: .v (.int .i64 (x.to')) :: .v (.int .i64 g) :: .v (.int .i64 x.kind) :: .v (.int .i64 x.day) :: .v (.int .i64 x.week) :: .v (.int .i64 (x.at')) :: .v (.int .i64 x.save) :: rowT ruleC xs := rfl

set_option linter.unusedSimpArgs false in
set_option maxHeartbeats 64000000 in
theorem source12_ex (l : List Int) (c : Int × Int) (hc : curP l c.1) : ∃ (rules : List RuleV) (zones : List ZoneV) (links : List LinkV) (c' : Int × Int), curP l c'.1 ∧ (rules.length ≤ 20 ∧ zones.length ≤ 4 ∧ links.length ≤ 3) ∧ CallsT Try.prog [⟨0, true, [.sl false 0 l.length 1 (rowT u8C l), .v (.int .i64 c.1), .v (.int .i64 c.2)]⟩] F.spec_l12DrawSource [.ptr 0 [] 0] (.agg [.sl false 0 rules.length 9 (rowT ruleC rules), .sl false 0 zones.length 3 (rowT zoneC zones), .sl false 0 links.length 2 (rowT linkC links)]) [⟨0, true, [.sl false 0 l.length 1 (rowT u8C l), .v (.int .i64 (c'.1)), .v (.int .i64 (c'.2))]⟩] := by
  obtain ⟨rules, zones, links, c1, hc1, hlen, h1⟩ := right12_ex l c hc
  obtain ⟨v, c2, hv, hc2, h2⟩ := below_ex l c1 20 hc1 (by omega)
  by_cases v0 : v = 0
  · subst v0
    cases rules with
    | nil =>
      refine ⟨[], zones, links, c2, hc2, ⟨by omega, by omega, by omega⟩, ?_⟩
      cases zones with
      | nil =>
        cases links with
        | nil =>
          dsimp only [rgT, rgS] at h1
          refine fnT C.spec_l12DrawSource ?_
          refine runC ?_
          refine r_calln [0] h1 ?_
          refine runC ?_
          refine r_call1p 0 h2 ?_
          refine run ?_
          exact r_end [0] [] (hres := by simp only [List.length_cons, List.length_nil, rowT_nil]; (simp only [go_sem, ↓reduceIte, Nat.reduceEqDiff, Nat.reduceMul, Nat.reduceAdd, Nat.reduceSub, Nat.reduceLT, Nat.reduceGT, Nat.reduceLeDiff, Nat.reduceBEq, Int.reduceLT, Int.reduceLE, Int.reduceNe, Int.reduceEq, Int.reduceToNat, Int.reduceAdd, Int.reduceSub, Int.reduceMul, Int.reduceNeg, Nat.reducePow, Int.reducePow, Nat.reduceSubDiff, decide_true, decide_false, reduceCtorEq, or_self, or_false, false_or, or_true, true_or, if_false, gt_iff_lt, ge_iff_le, ne_eq, not_true_eq_false, not_false_eq_true, and_self, beq_self_eq_true, Bool.false_eq_true]; try (repeat (first | exact True.intro | exact Wk.refl _ | exact Wk.nilR _ _ _ | exact Wk.nil _ _ | exact Wk.dead _ | exact Wk.bT (by assumption) | exact Wk.bF (by assumption) | exact Wk.eqI (by omega) | exact WkS.refl _ | exact Wks.same _ | exact Wks.nil | exact WkS.nil | refine And.intro ?_ ?_ | refine Wk.aggs ?_ | refine Wk.tups ?_ | refine Wks.cons ?_ ?_ | refine WkS.cons (by first | exact fun _ => rfl | exact fun h => absurd h Bool.false_ne_true) ?_ ?_ ?_ | assumption | exact (fun h => h) | exact (fun h => absurd h Bool.false_ne_true) | intro _))))
        | cons q qs =>
          dsimp only [rgT, rgS] at h1
          refine fnT C.spec_l12DrawSource ?_
          refine runC ?_
          refine r_calln [0] h1 ?_
          refine runC ?_
          refine r_call1p 0 h2 ?_
          refine run ?_
          exact r_end [0] [2] (hres := by simp only [List.length_cons, List.length_nil, rowT_nil]; (simp only [go_sem, ↓reduceIte, Nat.reduceEqDiff, Nat.reduceMul, Nat.reduceAdd, Nat.reduceSub, Nat.reduceLT, Nat.reduceGT, Nat.reduceLeDiff, Nat.reduceBEq, Int.reduceLT, Int.reduceLE, Int.reduceNe, Int.reduceEq, Int.reduceToNat, Int.reduceAdd, Int.reduceSub, Int.reduceMul, Int.reduceNeg, Nat.reducePow, Int.reducePow, Nat.reduceSubDiff, decide_true, decide_false, reduceCtorEq, or_self, or_false, false_or, or_true, true_or, if_false, gt_iff_lt, ge_iff_le, ne_eq, not_true_eq_false, not_false_eq_true, and_self, beq_self_eq_true, Bool.false_eq_true]; try (repeat (first | exact True.intro | exact Wk.refl _ | exact Wk.nilR _ _ _ | exact Wk.nil _ _ | exact Wk.dead _ | exact Wk.bT (by assumption) | exact Wk.bF (by assumption) | exact Wk.eqI (by omega) | exact WkS.refl _ | exact Wks.same _ | exact Wks.nil | exact WkS.nil | refine And.intro ?_ ?_ | refine Wk.aggs ?_ | refine Wk.tups ?_ | refine Wks.cons ?_ ?_ | refine WkS.cons (by first | exact fun _ => rfl | exact fun h => absurd h Bool.false_ne_true) ?_ ?_ ?_ | assumption | exact (fun h => h) | exact (fun h => absurd h Bool.false_ne_true) | intro _))))
      | cons y ys =>
        cases links with
        | nil =>
          dsimp only [rgT, rgS] at h1
          refine fnT C.spec_l12DrawSource ?_
          refine runC ?_
          refine r_calln [0] h1 ?_
          refine runC ?_
          refine r_call1p 0 h2 ?_
          refine run ?_
          exact r_end [0] [2] (hres := by simp only [List.length_cons, List.length_nil, rowT_nil]; (simp only [go_sem, ↓reduceIte, Nat.reduceEqDiff, Nat.reduceMul, Nat.reduceAdd, Nat.reduceSub, Nat.reduceLT, Nat.reduceGT, Nat.reduceLeDiff, Nat.reduceBEq, Int.reduceLT, Int.reduceLE, Int.reduceNe, Int.reduceEq, Int.reduceToNat, Int.reduceAdd, Int.reduceSub, Int.reduceMul, Int.reduceNeg, Nat.reducePow, Int.reducePow, Nat.reduceSubDiff, decide_true, decide_false, reduceCtorEq, or_self, or_false, false_or, or_true, true_or, if_false, gt_iff_lt, ge_iff_le, ne_eq, not_true_eq_false, not_false_eq_true, and_self, beq_self_eq_true, Bool.false_eq_true]; try (repeat (first | exact True.intro | exact Wk.refl _ | exact Wk.nilR _ _ _ | exact Wk.nil _ _ | exact Wk.dead _ | exact Wk.bT (by assumption) | exact Wk.bF (by assumption) | exact Wk.eqI (by omega) | exact WkS.refl _ | exact Wks.same _ | exact Wks.nil | exact WkS.nil | refine And.intro ?_ ?_ | refine Wk.aggs ?_ | refine Wk.tups ?_ | refine Wks.cons ?_ ?_ | refine WkS.cons (by first | exact fun _ => rfl | exact fun h => absurd h Bool.false_ne_true) ?_ ?_ ?_ | assumption | exact (fun h => h) | exact (fun h => absurd h Bool.false_ne_true) | intro _))))
        | cons q qs =>
          dsimp only [rgT, rgS] at h1
          refine fnT C.spec_l12DrawSource ?_
          refine runC ?_
          refine r_calln [0] h1 ?_
          refine runC ?_
          refine r_call1p 0 h2 ?_
          refine run ?_
          exact r_end [0] [2, 3] (hres := by simp only [List.length_cons, List.length_nil, rowT_nil]; (simp only [go_sem, ↓reduceIte, Nat.reduceEqDiff, Nat.reduceMul, Nat.reduceAdd, Nat.reduceSub, Nat.reduceLT, Nat.reduceGT, Nat.reduceLeDiff, Nat.reduceBEq, Int.reduceLT, Int.reduceLE, Int.reduceNe, Int.reduceEq, Int.reduceToNat, Int.reduceAdd, Int.reduceSub, Int.reduceMul, Int.reduceNeg, Nat.reducePow, Int.reducePow, Nat.reduceSubDiff, decide_true, decide_false, reduceCtorEq, or_self, or_false, false_or, or_true, true_or, if_false, gt_iff_lt, ge_iff_le, ne_eq, not_true_eq_false, not_false_eq_true, and_self, beq_self_eq_true, Bool.false_eq_true]; try (repeat (first | exact True.intro | exact Wk.refl _ | exact Wk.nilR _ _ _ | exact Wk.nil _ _ | exact Wk.dead _ | exact Wk.bT (by assumption) | exact Wk.bF (by assumption) | exact Wk.eqI (by omega) | exact WkS.refl _ | exact Wks.same _ | exact Wks.nil | exact WkS.nil | refine And.intro ?_ ?_ | refine Wk.aggs ?_ | refine Wk.tups ?_ | refine Wks.cons ?_ ?_ | refine WkS.cons (by first | exact fun _ => rfl | exact fun h => absurd h Bool.false_ne_true) ?_ ?_ ?_ | assumption | exact (fun h => h) | exact (fun h => absurd h Bool.false_ne_true) | intro _))))
    | cons x xs =>
      obtain ⟨g, c3, hg, hc3, h3⟩ := below_ex l c2 14 hc2 (by omega)
      refine ⟨{ x with month := g } :: xs, zones, links, c3, hc3, ⟨by simp only [List.length_cons] at hlen ⊢; omega, by omega, by omega⟩, ?_⟩
      rw [month_row]
      cases zones with
      | nil =>
        cases links with
        | nil =>
          dsimp only [rgT, rgS] at h1
          rw [rowT_cons] at h1
          dsimp only [ruleC, List.cons_append, List.nil_append] at h1
          refine fnT C.spec_l12DrawSource ?_
          refine runC ?_
          refine r_calln [0] h1 ?_
          refine runC ?_
          refine r_call1p 0 h2 ?_
          refine runC ?_
          refine r_call1p 0 h3 ?_
          refine run ?_
          exact r_end [0] [2] (hres := by simp only [List.length_cons, List.length_nil, rowT_nil]; (simp only [go_sem, ↓reduceIte, Nat.reduceEqDiff, Nat.reduceMul, Nat.reduceAdd, Nat.reduceSub, Nat.reduceLT, Nat.reduceGT, Nat.reduceLeDiff, Nat.reduceBEq, Int.reduceLT, Int.reduceLE, Int.reduceNe, Int.reduceEq, Int.reduceToNat, Int.reduceAdd, Int.reduceSub, Int.reduceMul, Int.reduceNeg, Nat.reducePow, Int.reducePow, Nat.reduceSubDiff, decide_true, decide_false, reduceCtorEq, or_self, or_false, false_or, or_true, true_or, if_false, gt_iff_lt, ge_iff_le, ne_eq, not_true_eq_false, not_false_eq_true, and_self, beq_self_eq_true, Bool.false_eq_true]; try (repeat (first | exact True.intro | exact Wk.refl _ | exact Wk.nilR _ _ _ | exact Wk.nil _ _ | exact Wk.dead _ | exact Wk.bT (by assumption) | exact Wk.bF (by assumption) | exact Wk.eqI (by omega) | exact WkS.refl _ | exact Wks.same _ | exact Wks.nil | exact WkS.nil | refine And.intro ?_ ?_ | refine Wk.aggs ?_ | refine Wk.tups ?_ | refine Wks.cons ?_ ?_ | refine WkS.cons (by first | exact fun _ => rfl | exact fun h => absurd h Bool.false_ne_true) ?_ ?_ ?_ | assumption | exact (fun h => h) | exact (fun h => absurd h Bool.false_ne_true) | intro _))))
        | cons q qs =>
          dsimp only [rgT, rgS] at h1
          rw [rowT_cons] at h1
          dsimp only [ruleC, List.cons_append, List.nil_append] at h1
          refine fnT C.spec_l12DrawSource ?_
          refine runC ?_
          refine r_calln [0] h1 ?_
          refine runC ?_
          refine r_call1p 0 h2 ?_
          refine runC ?_
          refine r_call1p 0 h3 ?_
          refine run ?_
          exact r_end [0] [2, 3] (hres := by simp only [List.length_cons, List.length_nil, rowT_nil]; (simp only [go_sem, ↓reduceIte, Nat.reduceEqDiff, Nat.reduceMul, Nat.reduceAdd, Nat.reduceSub, Nat.reduceLT, Nat.reduceGT, Nat.reduceLeDiff, Nat.reduceBEq, Int.reduceLT, Int.reduceLE, Int.reduceNe, Int.reduceEq, Int.reduceToNat, Int.reduceAdd, Int.reduceSub, Int.reduceMul, Int.reduceNeg, Nat.reducePow, Int.reducePow, Nat.reduceSubDiff, decide_true, decide_false, reduceCtorEq, or_self, or_false, false_or, or_true, true_or, if_false, gt_iff_lt, ge_iff_le, ne_eq, not_true_eq_false, not_false_eq_true, and_self, beq_self_eq_true, Bool.false_eq_true]; try (repeat (first | exact True.intro | exact Wk.refl _ | exact Wk.nilR _ _ _ | exact Wk.nil _ _ | exact Wk.dead _ | exact Wk.bT (by assumption) | exact Wk.bF (by assumption) | exact Wk.eqI (by omega) | exact WkS.refl _ | exact Wks.same _ | exact Wks.nil | exact WkS.nil | refine And.intro ?_ ?_ | refine Wk.aggs ?_ | refine Wk.tups ?_ | refine Wks.cons ?_ ?_ | refine WkS.cons (by first | exact fun _ => rfl | exact fun h => absurd h Bool.false_ne_true) ?_ ?_ ?_ | assumption | exact (fun h => h) | exact (fun h => absurd h Bool.false_ne_true) | intro _))))
      | cons y ys =>
        cases links with
        | nil =>
          dsimp only [rgT, rgS] at h1
          rw [rowT_cons] at h1
          dsimp only [ruleC, List.cons_append, List.nil_append] at h1
          refine fnT C.spec_l12DrawSource ?_
          refine runC ?_
          refine r_calln [0] h1 ?_
          refine runC ?_
          refine r_call1p 0 h2 ?_
          refine runC ?_
          refine r_call1p 0 h3 ?_
          refine run ?_
          exact r_end [0] [2, 3] (hres := by simp only [List.length_cons, List.length_nil, rowT_nil]; (simp only [go_sem, ↓reduceIte, Nat.reduceEqDiff, Nat.reduceMul, Nat.reduceAdd, Nat.reduceSub, Nat.reduceLT, Nat.reduceGT, Nat.reduceLeDiff, Nat.reduceBEq, Int.reduceLT, Int.reduceLE, Int.reduceNe, Int.reduceEq, Int.reduceToNat, Int.reduceAdd, Int.reduceSub, Int.reduceMul, Int.reduceNeg, Nat.reducePow, Int.reducePow, Nat.reduceSubDiff, decide_true, decide_false, reduceCtorEq, or_self, or_false, false_or, or_true, true_or, if_false, gt_iff_lt, ge_iff_le, ne_eq, not_true_eq_false, not_false_eq_true, and_self, beq_self_eq_true, Bool.false_eq_true]; try (repeat (first | exact True.intro | exact Wk.refl _ | exact Wk.nilR _ _ _ | exact Wk.nil _ _ | exact Wk.dead _ | exact Wk.bT (by assumption) | exact Wk.bF (by assumption) | exact Wk.eqI (by omega) | exact WkS.refl _ | exact Wks.same _ | exact Wks.nil | exact WkS.nil | refine And.intro ?_ ?_ | refine Wk.aggs ?_ | refine Wk.tups ?_ | refine Wks.cons ?_ ?_ | refine WkS.cons (by first | exact fun _ => rfl | exact fun h => absurd h Bool.false_ne_true) ?_ ?_ ?_ | assumption | exact (fun h => h) | exact (fun h => absurd h Bool.false_ne_true) | intro _))))
        | cons q qs =>
          dsimp only [rgT, rgS] at h1
          rw [rowT_cons] at h1
          dsimp only [ruleC, List.cons_append, List.nil_append] at h1
          refine fnT C.spec_l12DrawSource ?_
          refine runC ?_
          refine r_calln [0] h1 ?_
          refine runC ?_
          refine r_call1p 0 h2 ?_
          refine runC ?_
          refine r_call1p 0 h3 ?_
          refine run ?_
          exact r_end [0] [2, 3, 4] (hres := by simp only [List.length_cons, List.length_nil, rowT_nil]; (simp only [go_sem, ↓reduceIte, Nat.reduceEqDiff, Nat.reduceMul, Nat.reduceAdd, Nat.reduceSub, Nat.reduceLT, Nat.reduceGT, Nat.reduceLeDiff, Nat.reduceBEq, Int.reduceLT, Int.reduceLE, Int.reduceNe, Int.reduceEq, Int.reduceToNat, Int.reduceAdd, Int.reduceSub, Int.reduceMul, Int.reduceNeg, Nat.reducePow, Int.reducePow, Nat.reduceSubDiff, decide_true, decide_false, reduceCtorEq, or_self, or_false, false_or, or_true, true_or, if_false, gt_iff_lt, ge_iff_le, ne_eq, not_true_eq_false, not_false_eq_true, and_self, beq_self_eq_true, Bool.false_eq_true]; try (repeat (first | exact True.intro | exact Wk.refl _ | exact Wk.nilR _ _ _ | exact Wk.nil _ _ | exact Wk.dead _ | exact Wk.bT (by assumption) | exact Wk.bF (by assumption) | exact Wk.eqI (by omega) | exact WkS.refl _ | exact Wks.same _ | exact Wks.nil | exact WkS.nil | refine And.intro ?_ ?_ | refine Wk.aggs ?_ | refine Wk.tups ?_ | refine Wks.cons ?_ ?_ | refine WkS.cons (by first | exact fun _ => rfl | exact fun h => absurd h Bool.false_ne_true) ?_ ?_ ?_ | assumption | exact (fun h => h) | exact (fun h => absurd h Bool.false_ne_true) | intro _))))
  by_cases v1 : v = 1
  · subst v1
    obtain ⟨a, c3, ha, hc3, h3⟩ := below_ex l c2 30 hc2 (by omega)
    obtain ⟨b, c4, hb, hc4, h4⟩ := below_ex l c3 2 hc3 (by omega)
    refine ⟨rules, zones ++ [⟨65 + a, 901 - b, 0⟩], links, c4, hc4, ⟨by omega, by rw [List.length_append, List.length_singleton]; omega, by omega⟩, ?_⟩
    cases rules with
    | nil =>
      cases zones with
      | nil =>
        cases links with
        | nil =>
          dsimp only [rgT, rgS] at h1
          simp only [List.length_cons, List.length_nil] at hlen
          refine fnT C.spec_l12DrawSource ?_
          refine runC ?_
          refine r_calln [0] h1 ?_
          refine runC ?_
          refine r_call1p 0 h2 ?_
          refine runC ?_
          refine r_call1p 0 h3 ?_
          refine runC ?_
          refine r_call1p 0 h4 ?_
          refine run ?_
          refine r_apz ?_
          refine run ?_
          exact r_end [0] [4] (hres := by simp only [List.length_cons, List.length_append, List.length_nil, rowT_nil, List.cons_append, List.nil_append]; (simp only [go_sem, ↓reduceIte, Nat.reduceEqDiff, Nat.reduceMul, Nat.reduceAdd, Nat.reduceSub, Nat.reduceLT, Nat.reduceGT, Nat.reduceLeDiff, Nat.reduceBEq, Int.reduceLT, Int.reduceLE, Int.reduceNe, Int.reduceEq, Int.reduceToNat, Int.reduceAdd, Int.reduceSub, Int.reduceMul, Int.reduceNeg, Nat.reducePow, Int.reducePow, Nat.reduceSubDiff, decide_true, decide_false, reduceCtorEq, or_self, or_false, false_or, or_true, true_or, if_false, gt_iff_lt, ge_iff_le, ne_eq, not_true_eq_false, not_false_eq_true, and_self, beq_self_eq_true, Bool.false_eq_true]; try (repeat (first | exact True.intro | exact Wk.refl _ | exact Wk.nilR _ _ _ | exact Wk.nil _ _ | exact Wk.dead _ | exact Wk.bT (by assumption) | exact Wk.bF (by assumption) | exact Wk.eqI (by omega) | exact WkS.refl _ | exact Wks.same _ | exact Wks.nil | exact WkS.nil | refine And.intro ?_ ?_ | refine Wk.aggs ?_ | refine Wk.tups ?_ | refine Wks.cons ?_ ?_ | refine WkS.cons (by first | exact fun _ => rfl | exact fun h => absurd h Bool.false_ne_true) ?_ ?_ ?_ | assumption | exact (fun h => h) | exact (fun h => absurd h Bool.false_ne_true) | intro _))))
        | cons q qs =>
          dsimp only [rgT, rgS] at h1
          simp only [List.length_cons, List.length_nil] at hlen
          refine fnT C.spec_l12DrawSource ?_
          refine runC ?_
          refine r_calln [0] h1 ?_
          refine runC ?_
          refine r_call1p 0 h2 ?_
          refine runC ?_
          refine r_call1p 0 h3 ?_
          refine runC ?_
          refine r_call1p 0 h4 ?_
          refine run ?_
          refine r_apz ?_
          refine run ?_
          exact r_end [0] [5, 2] (hres := by simp only [List.length_cons, List.length_append, List.length_nil, rowT_nil, List.cons_append, List.nil_append]; (simp only [go_sem, ↓reduceIte, Nat.reduceEqDiff, Nat.reduceMul, Nat.reduceAdd, Nat.reduceSub, Nat.reduceLT, Nat.reduceGT, Nat.reduceLeDiff, Nat.reduceBEq, Int.reduceLT, Int.reduceLE, Int.reduceNe, Int.reduceEq, Int.reduceToNat, Int.reduceAdd, Int.reduceSub, Int.reduceMul, Int.reduceNeg, Nat.reducePow, Int.reducePow, Nat.reduceSubDiff, decide_true, decide_false, reduceCtorEq, or_self, or_false, false_or, or_true, true_or, if_false, gt_iff_lt, ge_iff_le, ne_eq, not_true_eq_false, not_false_eq_true, and_self, beq_self_eq_true, Bool.false_eq_true]; try (repeat (first | exact True.intro | exact Wk.refl _ | exact Wk.nilR _ _ _ | exact Wk.nil _ _ | exact Wk.dead _ | exact Wk.bT (by assumption) | exact Wk.bF (by assumption) | exact Wk.eqI (by omega) | exact WkS.refl _ | exact Wks.same _ | exact Wks.nil | exact WkS.nil | refine And.intro ?_ ?_ | refine Wk.aggs ?_ | refine Wk.tups ?_ | refine Wks.cons ?_ ?_ | refine WkS.cons (by first | exact fun _ => rfl | exact fun h => absurd h Bool.false_ne_true) ?_ ?_ ?_ | assumption | exact (fun h => h) | exact (fun h => absurd h Bool.false_ne_true) | intro _))))
      | cons y ys =>
        cases links with
        | nil =>
          dsimp only [rgT, rgS] at h1
          simp only [List.length_cons, List.length_nil] at hlen
          refine fnT C.spec_l12DrawSource ?_
          refine runC ?_
          refine r_calln [0] h1 ?_
          refine runC ?_
          refine r_call1p 0 h2 ?_
          refine runC ?_
          refine r_call1p 0 h3 ?_
          refine runC ?_
          refine r_call1p 0 h4 ?_
          refine run ?_
          refine r_app (enc := zoneC) (y :: ys) [⟨65 + a, 901 - b, 0⟩] (by simp only [List.length_cons, List.length_nil]; omega) ?_
          refine run ?_
          exact r_end [0] [5] (hres := by simp only [List.length_cons, List.length_append, List.length_nil, rowT_nil, List.cons_append, List.nil_append]; (simp only [go_sem, ↓reduceIte, Nat.reduceEqDiff, Nat.reduceMul, Nat.reduceAdd, Nat.reduceSub, Nat.reduceLT, Nat.reduceGT, Nat.reduceLeDiff, Nat.reduceBEq, Int.reduceLT, Int.reduceLE, Int.reduceNe, Int.reduceEq, Int.reduceToNat, Int.reduceAdd, Int.reduceSub, Int.reduceMul, Int.reduceNeg, Nat.reducePow, Int.reducePow, Nat.reduceSubDiff, decide_true, decide_false, reduceCtorEq, or_self, or_false, false_or, or_true, true_or, if_false, gt_iff_lt, ge_iff_le, ne_eq, not_true_eq_false, not_false_eq_true, and_self, beq_self_eq_true, Bool.false_eq_true]; try (repeat (first | exact True.intro | exact Wk.refl _ | exact Wk.nilR _ _ _ | exact Wk.nil _ _ | exact Wk.dead _ | exact Wk.bT (by assumption) | exact Wk.bF (by assumption) | exact Wk.eqI (by omega) | exact WkS.refl _ | exact Wks.same _ | exact Wks.nil | exact WkS.nil | refine And.intro ?_ ?_ | refine Wk.aggs ?_ | refine Wk.tups ?_ | refine Wks.cons ?_ ?_ | refine WkS.cons (by first | exact fun _ => rfl | exact fun h => absurd h Bool.false_ne_true) ?_ ?_ ?_ | assumption | exact (fun h => h) | exact (fun h => absurd h Bool.false_ne_true) | intro _))))
        | cons q qs =>
          dsimp only [rgT, rgS] at h1
          simp only [List.length_cons, List.length_nil] at hlen
          refine fnT C.spec_l12DrawSource ?_
          refine runC ?_
          refine r_calln [0] h1 ?_
          refine runC ?_
          refine r_call1p 0 h2 ?_
          refine runC ?_
          refine r_call1p 0 h3 ?_
          refine runC ?_
          refine r_call1p 0 h4 ?_
          refine run ?_
          refine r_app (enc := zoneC) (y :: ys) [⟨65 + a, 901 - b, 0⟩] (by simp only [List.length_cons, List.length_nil]; omega) ?_
          refine run ?_
          exact r_end [0] [6, 3] (hres := by simp only [List.length_cons, List.length_append, List.length_nil, rowT_nil, List.cons_append, List.nil_append]; (simp only [go_sem, ↓reduceIte, Nat.reduceEqDiff, Nat.reduceMul, Nat.reduceAdd, Nat.reduceSub, Nat.reduceLT, Nat.reduceGT, Nat.reduceLeDiff, Nat.reduceBEq, Int.reduceLT, Int.reduceLE, Int.reduceNe, Int.reduceEq, Int.reduceToNat, Int.reduceAdd, Int.reduceSub, Int.reduceMul, Int.reduceNeg, Nat.reducePow, Int.reducePow, Nat.reduceSubDiff, decide_true, decide_false, reduceCtorEq, or_self, or_false, false_or, or_true, true_or, if_false, gt_iff_lt, ge_iff_le, ne_eq, not_true_eq_false, not_false_eq_true, and_self, beq_self_eq_true, Bool.false_eq_true]; try (repeat (first | exact True.intro | exact Wk.refl _ | exact Wk.nilR _ _ _ | exact Wk.nil _ _ | exact Wk.dead _ | exact Wk.bT (by assumption) | exact Wk.bF (by assumption) | exact Wk.eqI (by omega) | exact WkS.refl _ | exact Wks.same _ | exact Wks.nil | exact WkS.nil | refine And.intro ?_ ?_ | refine Wk.aggs ?_ | refine Wk.tups ?_ | refine Wks.cons ?_ ?_ | refine WkS.cons (by first | exact fun _ => rfl | exact fun h => absurd h Bool.false_ne_true) ?_ ?_ ?_ | assumption | exact (fun h => h) | exact (fun h => absurd h Bool.false_ne_true) | intro _))))
    | cons x xs =>
      cases zones with
      | nil =>
        cases links with
        | nil =>
          dsimp only [rgT, rgS] at h1
          simp only [List.length_cons, List.length_nil] at hlen
          refine fnT C.spec_l12DrawSource ?_
          refine runC ?_
          refine r_calln [0] h1 ?_
          refine runC ?_
          refine r_call1p 0 h2 ?_
          refine runC ?_
          refine r_call1p 0 h3 ?_
          refine runC ?_
          refine r_call1p 0 h4 ?_
          refine run ?_
          refine r_apz ?_
          refine run ?_
          exact r_end [0] [2, 5] (hres := by simp only [List.length_cons, List.length_append, List.length_nil, rowT_nil, List.cons_append, List.nil_append]; (simp only [go_sem, ↓reduceIte, Nat.reduceEqDiff, Nat.reduceMul, Nat.reduceAdd, Nat.reduceSub, Nat.reduceLT, Nat.reduceGT, Nat.reduceLeDiff, Nat.reduceBEq, Int.reduceLT, Int.reduceLE, Int.reduceNe, Int.reduceEq, Int.reduceToNat, Int.reduceAdd, Int.reduceSub, Int.reduceMul, Int.reduceNeg, Nat.reducePow, Int.reducePow, Nat.reduceSubDiff, decide_true, decide_false, reduceCtorEq, or_self, or_false, false_or, or_true, true_or, if_false, gt_iff_lt, ge_iff_le, ne_eq, not_true_eq_false, not_false_eq_true, and_self, beq_self_eq_true, Bool.false_eq_true]; try (repeat (first | exact True.intro | exact Wk.refl _ | exact Wk.nilR _ _ _ | exact Wk.nil _ _ | exact Wk.dead _ | exact Wk.bT (by assumption) | exact Wk.bF (by assumption) | exact Wk.eqI (by omega) | exact WkS.refl _ | exact Wks.same _ | exact Wks.nil | exact WkS.nil | refine And.intro ?_ ?_ | refine Wk.aggs ?_ | refine Wk.tups ?_ | refine Wks.cons ?_ ?_ | refine WkS.cons (by first | exact fun _ => rfl | exact fun h => absurd h Bool.false_ne_true) ?_ ?_ ?_ | assumption | exact (fun h => h) | exact (fun h => absurd h Bool.false_ne_true) | intro _))))
        | cons q qs =>
          dsimp only [rgT, rgS] at h1
          simp only [List.length_cons, List.length_nil] at hlen
          refine fnT C.spec_l12DrawSource ?_
          refine runC ?_
          refine r_calln [0] h1 ?_
          refine runC ?_
          refine r_call1p 0 h2 ?_
          refine runC ?_
          refine r_call1p 0 h3 ?_
          refine runC ?_
          refine r_call1p 0 h4 ?_
          refine run ?_
          refine r_apz ?_
          refine run ?_
          exact r_end [0] [2, 6, 3] (hres := by simp only [List.length_cons, List.length_append, List.length_nil, rowT_nil, List.cons_append, List.nil_append]; (simp only [go_sem, ↓reduceIte, Nat.reduceEqDiff, Nat.reduceMul, Nat.reduceAdd, Nat.reduceSub, Nat.reduceLT, Nat.reduceGT, Nat.reduceLeDiff, Nat.reduceBEq, Int.reduceLT, Int.reduceLE, Int.reduceNe, Int.reduceEq, Int.reduceToNat, Int.reduceAdd, Int.reduceSub, Int.reduceMul, Int.reduceNeg, Nat.reducePow, Int.reducePow, Nat.reduceSubDiff, decide_true, decide_false, reduceCtorEq, or_self, or_false, false_or, or_true, true_or, if_false, gt_iff_lt, ge_iff_le, ne_eq, not_true_eq_false, not_false_eq_true, and_self, beq_self_eq_true, Bool.false_eq_true]; try (repeat (first | exact True.intro | exact Wk.refl _ | exact Wk.nilR _ _ _ | exact Wk.nil _ _ | exact Wk.dead _ | exact Wk.bT (by assumption) | exact Wk.bF (by assumption) | exact Wk.eqI (by omega) | exact WkS.refl _ | exact Wks.same _ | exact Wks.nil | exact WkS.nil | refine And.intro ?_ ?_ | refine Wk.aggs ?_ | refine Wk.tups ?_ | refine Wks.cons ?_ ?_ | refine WkS.cons (by first | exact fun _ => rfl | exact fun h => absurd h Bool.false_ne_true) ?_ ?_ ?_ | assumption | exact (fun h => h) | exact (fun h => absurd h Bool.false_ne_true) | intro _))))
      | cons y ys =>
        cases links with
        | nil =>
          dsimp only [rgT, rgS] at h1
          simp only [List.length_cons, List.length_nil] at hlen
          refine fnT C.spec_l12DrawSource ?_
          refine runC ?_
          refine r_calln [0] h1 ?_
          refine runC ?_
          refine r_call1p 0 h2 ?_
          refine runC ?_
          refine r_call1p 0 h3 ?_
          refine runC ?_
          refine r_call1p 0 h4 ?_
          refine run ?_
          refine r_app (enc := zoneC) (y :: ys) [⟨65 + a, 901 - b, 0⟩] (by simp only [List.length_cons, List.length_nil]; omega) ?_
          refine run ?_
          exact r_end [0] [2, 6] (hres := by simp only [List.length_cons, List.length_append, List.length_nil, rowT_nil, List.cons_append, List.nil_append]; (simp only [go_sem, ↓reduceIte, Nat.reduceEqDiff, Nat.reduceMul, Nat.reduceAdd, Nat.reduceSub, Nat.reduceLT, Nat.reduceGT, Nat.reduceLeDiff, Nat.reduceBEq, Int.reduceLT, Int.reduceLE, Int.reduceNe, Int.reduceEq, Int.reduceToNat, Int.reduceAdd, Int.reduceSub, Int.reduceMul, Int.reduceNeg, Nat.reducePow, Int.reducePow, Nat.reduceSubDiff, decide_true, decide_false, reduceCtorEq, or_self, or_false, false_or, or_true, true_or, if_false, gt_iff_lt, ge_iff_le, ne_eq, not_true_eq_false, not_false_eq_true, and_self, beq_self_eq_true, Bool.false_eq_true]; try (repeat (first | exact True.intro | exact Wk.refl _ | exact Wk.nilR _ _ _ | exact Wk.nil _ _ | exact Wk.dead _ | exact Wk.bT (by assumption) | exact Wk.bF (by assumption) | exact Wk.eqI (by omega) | exact WkS.refl _ | exact Wks.same _ | exact Wks.nil | exact WkS.nil | refine And.intro ?_ ?_ | refine Wk.aggs ?_ | refine Wk.tups ?_ | refine Wks.cons ?_ ?_ | refine WkS.cons (by first | exact fun _ => rfl | exact fun h => absurd h Bool.false_ne_true) ?_ ?_ ?_ | assumption | exact (fun h => h) | exact (fun h => absurd h Bool.false_ne_true) | intro _))))
        | cons q qs =>
          dsimp only [rgT, rgS] at h1
          simp only [List.length_cons, List.length_nil] at hlen
          refine fnT C.spec_l12DrawSource ?_
          refine runC ?_
          refine r_calln [0] h1 ?_
          refine runC ?_
          refine r_call1p 0 h2 ?_
          refine runC ?_
          refine r_call1p 0 h3 ?_
          refine runC ?_
          refine r_call1p 0 h4 ?_
          refine run ?_
          refine r_app (enc := zoneC) (y :: ys) [⟨65 + a, 901 - b, 0⟩] (by simp only [List.length_cons, List.length_nil]; omega) ?_
          refine run ?_
          exact r_end [0] [2, 7, 4] (hres := by simp only [List.length_cons, List.length_append, List.length_nil, rowT_nil, List.cons_append, List.nil_append]; (simp only [go_sem, ↓reduceIte, Nat.reduceEqDiff, Nat.reduceMul, Nat.reduceAdd, Nat.reduceSub, Nat.reduceLT, Nat.reduceGT, Nat.reduceLeDiff, Nat.reduceBEq, Int.reduceLT, Int.reduceLE, Int.reduceNe, Int.reduceEq, Int.reduceToNat, Int.reduceAdd, Int.reduceSub, Int.reduceMul, Int.reduceNeg, Nat.reducePow, Int.reducePow, Nat.reduceSubDiff, decide_true, decide_false, reduceCtorEq, or_self, or_false, false_or, or_true, true_or, if_false, gt_iff_lt, ge_iff_le, ne_eq, not_true_eq_false, not_false_eq_true, and_self, beq_self_eq_true, Bool.false_eq_true]; try (repeat (first | exact True.intro | exact Wk.refl _ | exact Wk.nilR _ _ _ | exact Wk.nil _ _ | exact Wk.dead _ | exact Wk.bT (by assumption) | exact Wk.bF (by assumption) | exact Wk.eqI (by omega) | exact WkS.refl _ | exact Wks.same _ | exact Wks.nil | exact WkS.nil | refine And.intro ?_ ?_ | refine Wk.aggs ?_ | refine Wk.tups ?_ | refine Wks.cons ?_ ?_ | refine WkS.cons (by first | exact fun _ => rfl | exact fun h => absurd h Bool.false_ne_true) ?_ ?_ ?_ | assumption | exact (fun h => h) | exact (fun h => absurd h Bool.false_ne_true) | intro _))))
  by_cases v2 : v = 2
  · subst v2
    obtain ⟨a, c3, ha, hc3, h3⟩ := below_ex l c2 3 hc2 (by omega)
    refine ⟨rules, zones, links ++ [⟨90, 65 + a⟩], c3, hc3, ⟨by omega, by omega, by rw [List.length_append, List.length_singleton]; omega⟩, ?_⟩
    cases rules with
    | nil =>
      cases zones with
      | nil =>
        cases links with
        | nil =>
          dsimp only [rgT, rgS] at h1
          simp only [List.length_cons, List.length_nil] at hlen
          refine fnT C.spec_l12DrawSource ?_
          refine runC ?_
          refine r_calln [0] h1 ?_
          refine runC ?_
          refine r_call1p 0 h2 ?_
          refine runC ?_
          refine r_call1p 0 h3 ?_
          refine run ?_
          refine r_apz ?_
          refine run ?_
          exact r_end [0] [4] (hres := by simp only [List.length_cons, List.length_append, List.length_nil, rowT_nil, List.cons_append, List.nil_append]; (simp only [go_sem, ↓reduceIte, Nat.reduceEqDiff, Nat.reduceMul, Nat.reduceAdd, Nat.reduceSub, Nat.reduceLT, Nat.reduceGT, Nat.reduceLeDiff, Nat.reduceBEq, Int.reduceLT, Int.reduceLE, Int.reduceNe, Int.reduceEq, Int.reduceToNat, Int.reduceAdd, Int.reduceSub, Int.reduceMul, Int.reduceNeg, Nat.reducePow, Int.reducePow, Nat.reduceSubDiff, decide_true, decide_false, reduceCtorEq, or_self, or_false, false_or, or_true, true_or, if_false, gt_iff_lt, ge_iff_le, ne_eq, not_true_eq_false, not_false_eq_true, and_self, beq_self_eq_true, Bool.false_eq_true]; try (repeat (first | exact True.intro | exact Wk.refl _ | exact Wk.nilR _ _ _ | exact Wk.nil _ _ | exact Wk.dead _ | exact Wk.bT (by assumption) | exact Wk.bF (by assumption) | exact Wk.eqI (by omega) | exact WkS.refl _ | exact Wks.same _ | exact Wks.nil | exact WkS.nil | refine And.intro ?_ ?_ | refine Wk.aggs ?_ | refine Wk.tups ?_ | refine Wks.cons ?_ ?_ | refine WkS.cons (by first | exact fun _ => rfl | exact fun h => absurd h Bool.false_ne_true) ?_ ?_ ?_ | assumption | exact (fun h => h) | exact (fun h => absurd h Bool.false_ne_true) | intro _))))
        | cons q qs =>
          dsimp only [rgT, rgS] at h1
          simp only [List.length_cons, List.length_nil] at hlen
          refine fnT C.spec_l12DrawSource ?_
          refine runC ?_
          refine r_calln [0] h1 ?_
          refine runC ?_
          refine r_call1p 0 h2 ?_
          refine runC ?_
          refine r_call1p 0 h3 ?_
          refine run ?_
          refine r_app (enc := linkC) (q :: qs) [⟨90, 65 + a⟩] (by simp only [List.length_cons, List.length_nil]; omega) ?_
          refine run ?_
          exact r_end [0] [5] (hres := by simp only [List.length_cons, List.length_append, List.length_nil, rowT_nil, List.cons_append, List.nil_append]; (simp only [go_sem, ↓reduceIte, Nat.reduceEqDiff, Nat.reduceMul, Nat.reduceAdd, Nat.reduceSub, Nat.reduceLT, Nat.reduceGT, Nat.reduceLeDiff, Nat.reduceBEq, Int.reduceLT, Int.reduceLE, Int.reduceNe, Int.reduceEq, Int.reduceToNat, Int.reduceAdd, Int.reduceSub, Int.reduceMul, Int.reduceNeg, Nat.reducePow, Int.reducePow, Nat.reduceSubDiff, decide_true, decide_false, reduceCtorEq, or_self, or_false, false_or, or_true, true_or, if_false, gt_iff_lt, ge_iff_le, ne_eq, not_true_eq_false, not_false_eq_true, and_self, beq_self_eq_true, Bool.false_eq_true]; try (repeat (first | exact True.intro | exact Wk.refl _ | exact Wk.nilR _ _ _ | exact Wk.nil _ _ | exact Wk.dead _ | exact Wk.bT (by assumption) | exact Wk.bF (by assumption) | exact Wk.eqI (by omega) | exact WkS.refl _ | exact Wks.same _ | exact Wks.nil | exact WkS.nil | refine And.intro ?_ ?_ | refine Wk.aggs ?_ | refine Wk.tups ?_ | refine Wks.cons ?_ ?_ | refine WkS.cons (by first | exact fun _ => rfl | exact fun h => absurd h Bool.false_ne_true) ?_ ?_ ?_ | assumption | exact (fun h => h) | exact (fun h => absurd h Bool.false_ne_true) | intro _))))
      | cons y ys =>
        cases links with
        | nil =>
          dsimp only [rgT, rgS] at h1
          simp only [List.length_cons, List.length_nil] at hlen
          refine fnT C.spec_l12DrawSource ?_
          refine runC ?_
          refine r_calln [0] h1 ?_
          refine runC ?_
          refine r_call1p 0 h2 ?_
          refine runC ?_
          refine r_call1p 0 h3 ?_
          refine run ?_
          refine r_apz ?_
          refine run ?_
          exact r_end [0] [2, 5] (hres := by simp only [List.length_cons, List.length_append, List.length_nil, rowT_nil, List.cons_append, List.nil_append]; (simp only [go_sem, ↓reduceIte, Nat.reduceEqDiff, Nat.reduceMul, Nat.reduceAdd, Nat.reduceSub, Nat.reduceLT, Nat.reduceGT, Nat.reduceLeDiff, Nat.reduceBEq, Int.reduceLT, Int.reduceLE, Int.reduceNe, Int.reduceEq, Int.reduceToNat, Int.reduceAdd, Int.reduceSub, Int.reduceMul, Int.reduceNeg, Nat.reducePow, Int.reducePow, Nat.reduceSubDiff, decide_true, decide_false, reduceCtorEq, or_self, or_false, false_or, or_true, true_or, if_false, gt_iff_lt, ge_iff_le, ne_eq, not_true_eq_false, not_false_eq_true, and_self, beq_self_eq_true, Bool.false_eq_true]; try (repeat (first | exact True.intro | exact Wk.refl _ | exact Wk.nilR _ _ _ | exact Wk.nil _ _ | exact Wk.dead _ | exact Wk.bT (by assumption) | exact Wk.bF (by assumption) | exact Wk.eqI (by omega) | exact WkS.refl _ | exact Wks.same _ | exact Wks.nil | exact WkS.nil | refine And.intro ?_ ?_ | refine Wk.aggs ?_ | refine Wk.tups ?_ | refine Wks.cons ?_ ?_ | refine WkS.cons (by first | exact fun _ => rfl | exact fun h => absurd h Bool.false_ne_true) ?_ ?_ ?_ | assumption | exact (fun h => h) | exact (fun h => absurd h Bool.false_ne_true) | intro _))))
        | cons q qs =>
          dsimp only [rgT, rgS] at h1
          simp only [List.length_cons, List.length_nil] at hlen
          refine fnT C.spec_l12DrawSource ?_
          refine runC ?_
          refine r_calln [0] h1 ?_
          refine runC ?_
          refine r_call1p 0 h2 ?_
          refine runC ?_
          refine r_call1p 0 h3 ?_
          refine run ?_
          refine r_app (enc := linkC) (q :: qs) [⟨90, 65 + a⟩] (by simp only [List.length_cons, List.length_nil]; omega) ?_
          refine run ?_
          exact r_end [0] [2, 6] (hres := by simp only [List.length_cons, List.length_append, List.length_nil, rowT_nil, List.cons_append, List.nil_append]; (simp only [go_sem, ↓reduceIte, Nat.reduceEqDiff, Nat.reduceMul, Nat.reduceAdd, Nat.reduceSub, Nat.reduceLT, Nat.reduceGT, Nat.reduceLeDiff, Nat.reduceBEq, Int.reduceLT, Int.reduceLE, Int.reduceNe, Int.reduceEq, Int.reduceToNat, Int.reduceAdd, Int.reduceSub, Int.reduceMul, Int.reduceNeg, Nat.reducePow, Int.reducePow, Nat.reduceSubDiff, decide_true, decide_false, reduceCtorEq, or_self, or_false, false_or, or_true, true_or, if_false, gt_iff_lt, ge_iff_le, ne_eq, not_true_eq_false, not_false_eq_true, and_self, beq_self_eq_true, Bool.false_eq_true]; try (repeat (first | exact True.intro | exact Wk.refl _ | exact Wk.nilR _ _ _ | exact Wk.nil _ _ | exact Wk.dead _ | exact Wk.bT (by assumption) | exact Wk.bF (by assumption) | exact Wk.eqI (by omega) | exact WkS.refl _ | exact Wks.same _ | exact Wks.nil | exact WkS.nil | refine And.intro ?_ ?_ | refine Wk.aggs ?_ | refine Wk.tups ?_ | refine Wks.cons ?_ ?_ | refine WkS.cons (by first | exact fun _ => rfl | exact fun h => absurd h Bool.false_ne_true) ?_ ?_ ?_ | assumption | exact (fun h => h) | exact (fun h => absurd h Bool.false_ne_true) | intro _))))
    | cons x xs =>
      cases zones with
      | nil =>
        cases links with
        | nil =>
          dsimp only [rgT, rgS] at h1
          simp only [List.length_cons, List.length_nil] at hlen
          refine fnT C.spec_l12DrawSource ?_
          refine runC ?_
          refine r_calln [0] h1 ?_
          refine runC ?_
          refine r_call1p 0 h2 ?_
          refine runC ?_
          refine r_call1p 0 h3 ?_
          refine run ?_
          refine r_apz ?_
          refine run ?_
          exact r_end [0] [2, 5] (hres := by simp only [List.length_cons, List.length_append, List.length_nil, rowT_nil, List.cons_append, List.nil_append]; (simp only [go_sem, ↓reduceIte, Nat.reduceEqDiff, Nat.reduceMul, Nat.reduceAdd, Nat.reduceSub, Nat.reduceLT, Nat.reduceGT, Nat.reduceLeDiff, Nat.reduceBEq, Int.reduceLT, Int.reduceLE, Int.reduceNe, Int.reduceEq, Int.reduceToNat, Int.reduceAdd, Int.reduceSub, Int.reduceMul, Int.reduceNeg, Nat.reducePow, Int.reducePow, Nat.reduceSubDiff, decide_true, decide_false, reduceCtorEq, or_self, or_false, false_or, or_true, true_or, if_false, gt_iff_lt, ge_iff_le, ne_eq, not_true_eq_false, not_false_eq_true, and_self, beq_self_eq_true, Bool.false_eq_true]; try (repeat (first | exact True.intro | exact Wk.refl _ | exact Wk.nilR _ _ _ | exact Wk.nil _ _ | exact Wk.dead _ | exact Wk.bT (by assumption) | exact Wk.bF (by assumption) | exact Wk.eqI (by omega) | exact WkS.refl _ | exact Wks.same _ | exact Wks.nil | exact WkS.nil | refine And.intro ?_ ?_ | refine Wk.aggs ?_ | refine Wk.tups ?_ | refine Wks.cons ?_ ?_ | refine WkS.cons (by first | exact fun _ => rfl | exact fun h => absurd h Bool.false_ne_true) ?_ ?_ ?_ | assumption | exact (fun h => h) | exact (fun h => absurd h Bool.false_ne_true) | intro _))))
        | cons q qs =>
          dsimp only [rgT, rgS] at h1
          simp only [List.length_cons, List.length_nil] at hlen
          refine fnT C.spec_l12DrawSource ?_
          refine runC ?_
          refine r_calln [0] h1 ?_
          refine runC ?_
          refine r_call1p 0 h2 ?_
          refine runC ?_
          refine r_call1p 0 h3 ?_
          refine run ?_
          refine r_app (enc := linkC) (q :: qs) [⟨90, 65 + a⟩] (by simp only [List.length_cons, List.length_nil]; omega) ?_
          refine run ?_
          exact r_end [0] [2, 6] (hres := by simp only [List.length_cons, List.length_append, List.length_nil, rowT_nil, List.cons_append, List.nil_append]; (simp only [go_sem, ↓reduceIte, Nat.reduceEqDiff, Nat.reduceMul, Nat.reduceAdd, Nat.reduceSub, Nat.reduceLT, Nat.reduceGT, Nat.reduceLeDiff, Nat.reduceBEq, Int.reduceLT, Int.reduceLE, Int.reduceNe, Int.reduceEq, Int.reduceToNat, Int.reduceAdd, Int.reduceSub, Int.reduceMul, Int.reduceNeg, Nat.reducePow, Int.reducePow, Nat.reduceSubDiff, decide_true, decide_false, reduceCtorEq, or_self, or_false, false_or, or_true, true_or, if_false, gt_iff_lt, ge_iff_le, ne_eq, not_true_eq_false, not_false_eq_true, and_self, beq_self_eq_true, Bool.false_eq_true]; try (repeat (first | exact True.intro | exact Wk.refl _ | exact Wk.nilR _ _ _ | exact Wk.nil _ _ | exact Wk.dead _ | exact Wk.bT (by assumption) | exact Wk.bF (by assumption) | exact Wk.eqI (by omega) | exact WkS.refl _ | exact Wks.same _ | exact Wks.nil | exact WkS.nil | refine And.intro ?_ ?_ | refine Wk.aggs ?_ | refine Wk.tups ?_ | refine Wks.cons ?_ ?_ | refine WkS.cons (by first | exact fun _ => rfl | exact fun h => absurd h Bool.false_ne_true) ?_ ?_ ?_ | assumption | exact (fun h => h) | exact (fun h => absurd h Bool.false_ne_true) | intro _))))
      | cons y ys =>
        cases links with
        | nil =>
          dsimp only [rgT, rgS] at h1
          simp only [List.length_cons, List.length_nil] at hlen
          refine fnT C.spec_l12DrawSource ?_
          refine runC ?_
          refine r_calln [0] h1 ?_
          refine runC ?_
          refine r_call1p 0 h2 ?_
          refine runC ?_
          refine r_call1p 0 h3 ?_
          refine run ?_
          refine r_apz ?_
          refine run ?_
          exact r_end [0] [2, 3, 6] (hres := by simp only [List.length_cons, List.length_append, List.length_nil, rowT_nil, List.cons_append, List.nil_append]; (simp only [go_sem, ↓reduceIte, Nat.reduceEqDiff, Nat.reduceMul, Nat.reduceAdd, Nat.reduceSub, Nat.reduceLT, Nat.reduceGT, Nat.reduceLeDiff, Nat.reduceBEq, Int.reduceLT, Int.reduceLE, Int.reduceNe, Int.reduceEq, Int.reduceToNat, Int.reduceAdd, Int.reduceSub, Int.reduceMul, Int.reduceNeg, Nat.reducePow, Int.reducePow, Nat.reduceSubDiff, decide_true, decide_false, reduceCtorEq, or_self, or_false, false_or, or_true, true_or, if_false, gt_iff_lt, ge_iff_le, ne_eq, not_true_eq_false, not_false_eq_true, and_self, beq_self_eq_true, Bool.false_eq_true]; try (repeat (first | exact True.intro | exact Wk.refl _ | exact Wk.nilR _ _ _ | exact Wk.nil _ _ | exact Wk.dead _ | exact Wk.bT (by assumption) | exact Wk.bF (by assumption) | exact Wk.eqI (by omega) | exact WkS.refl _ | exact Wks.same _ | exact Wks.nil | exact WkS.nil | refine And.intro ?_ ?_ | refine Wk.aggs ?_ | refine Wk.tups ?_ | refine Wks.cons ?_ ?_ | refine WkS.cons (by first | exact fun _ => rfl | exact fun h => absurd h Bool.false_ne_true) ?_ ?_ ?_ | assumption | exact (fun h => h) | exact (fun h => absurd h Bool.false_ne_true) | intro _))))
        | cons q qs =>
          dsimp only [rgT, rgS] at h1
          simp only [List.length_cons, List.length_nil] at hlen
          refine fnT C.spec_l12DrawSource ?_
          refine runC ?_
          refine r_calln [0] h1 ?_
          refine runC ?_
          refine r_call1p 0 h2 ?_
          refine runC ?_
          refine r_call1p 0 h3 ?_
          refine run ?_
          refine r_app (enc := linkC) (q :: qs) [⟨90, 65 + a⟩] (by simp only [List.length_cons, List.length_nil]; omega) ?_
          refine run ?_
          exact r_end [0] [2, 3, 7] (hres := by simp only [List.length_cons, List.length_append, List.length_nil, rowT_nil, List.cons_append, List.nil_append]; (simp only [go_sem, ↓reduceIte, Nat.reduceEqDiff, Nat.reduceMul, Nat.reduceAdd, Nat.reduceSub, Nat.reduceLT, Nat.reduceGT, Nat.reduceLeDiff, Nat.reduceBEq, Int.reduceLT, Int.reduceLE, Int.reduceNe, Int.reduceEq, Int.reduceToNat, Int.reduceAdd, Int.reduceSub, Int.reduceMul, Int.reduceNeg, Nat.reducePow, Int.reducePow, Nat.reduceSubDiff, decide_true, decide_false, reduceCtorEq, or_self, or_false, false_or, or_true, true_or, if_false, gt_iff_lt, ge_iff_le, ne_eq, not_true_eq_false, not_false_eq_true, and_self, beq_self_eq_true, Bool.false_eq_true]; try (repeat (first | exact True.intro | exact Wk.refl _ | exact Wk.nilR _ _ _ | exact Wk.nil _ _ | exact Wk.dead _ | exact Wk.bT (by assumption) | exact Wk.bF (by assumption) | exact Wk.eqI (by omega) | exact WkS.refl _ | exact Wks.same _ | exact Wks.nil | exact WkS.nil | refine And.intro ?_ ?_ | refine Wk.aggs ?_ | refine Wk.tups ?_ | refine Wks.cons ?_ ?_ | refine WkS.cons (by first | exact fun _ => rfl | exact fun h => absurd h Bool.false_ne_true) ?_ ?_ ?_ | assumption | exact (fun h => h) | exact (fun h => absurd h Bool.false_ne_true) | intro _))))
  by_cases v3 : v = 3
  · subst v3
    obtain ⟨a, c3, ha, hc3, h3⟩ := below_ex l c2 5 hc2 (by omega)
    refine ⟨rules, zones ++ [⟨90, 0, 97 + a⟩], links, c3, hc3, ⟨by omega, by rw [List.length_append, List.length_singleton]; omega, by omega⟩, ?_⟩
    cases rules with
    | nil =>
      cases zones with
      | nil =>
        cases links with
        | nil =>
          dsimp only [rgT, rgS] at h1
          simp only [List.length_cons, List.length_nil] at hlen
          refine fnT C.spec_l12DrawSource ?_
          refine runC ?_
          refine r_calln [0] h1 ?_
          refine runC ?_
          refine r_call1p 0 h2 ?_
          refine runC ?_
          refine r_call1p 0 h3 ?_
          refine run ?_
          refine r_apz ?_
          refine run ?_
          exact r_end [0] [4] (hres := by simp only [List.length_cons, List.length_append, List.length_nil, rowT_nil, List.cons_append, List.nil_append]; (simp only [go_sem, ↓reduceIte, Nat.reduceEqDiff, Nat.reduceMul, Nat.reduceAdd, Nat.reduceSub, Nat.reduceLT, Nat.reduceGT, Nat.reduceLeDiff, Nat.reduceBEq, Int.reduceLT, Int.reduceLE, Int.reduceNe, Int.reduceEq, Int.reduceToNat, Int.reduceAdd, Int.reduceSub, Int.reduceMul, Int.reduceNeg, Nat.reducePow, Int.reducePow, Nat.reduceSubDiff, decide_true, decide_false, reduceCtorEq, or_self, or_false, false_or, or_true, true_or, if_false, gt_iff_lt, ge_iff_le, ne_eq, not_true_eq_false, not_false_eq_true, and_self, beq_self_eq_true, Bool.false_eq_true]; try (repeat (first | exact True.intro | exact Wk.refl _ | exact Wk.nilR _ _ _ | exact Wk.nil _ _ | exact Wk.dead _ | exact Wk.bT (by assumption) | exact Wk.bF (by assumption) | exact Wk.eqI (by omega) | exact WkS.refl _ | exact Wks.same _ | exact Wks.nil | exact WkS.nil | refine And.intro ?_ ?_ | refine Wk.aggs ?_ | refine Wk.tups ?_ | refine Wks.cons ?_ ?_ | refine WkS.cons (by first | exact fun _ => rfl | exact fun h => absurd h Bool.false_ne_true) ?_ ?_ ?_ | assumption | exact (fun h => h) | exact (fun h => absurd h Bool.false_ne_true) | intro _))))
        | cons q qs =>
          dsimp only [rgT, rgS] at h1
          simp only [List.length_cons, List.length_nil] at hlen
          refine fnT C.spec_l12DrawSource ?_
          refine runC ?_
          refine r_calln [0] h1 ?_
          refine runC ?_
          refine r_call1p 0 h2 ?_
          refine runC ?_
          refine r_call1p 0 h3 ?_
          refine run ?_
          refine r_apz ?_
          refine run ?_
          exact r_end [0] [5, 2] (hres := by simp only [List.length_cons, List.length_append, List.length_nil, rowT_nil, List.cons_append, List.nil_append]; (simp only [go_sem, ↓reduceIte, Nat.reduceEqDiff, Nat.reduceMul, Nat.reduceAdd, Nat.reduceSub, Nat.reduceLT, Nat.reduceGT, Nat.reduceLeDiff, Nat.reduceBEq, Int.reduceLT, Int.reduceLE, Int.reduceNe, Int.reduceEq, Int.reduceToNat, Int.reduceAdd, Int.reduceSub, Int.reduceMul, Int.reduceNeg, Nat.reducePow, Int.reducePow, Nat.reduceSubDiff, decide_true, decide_false, reduceCtorEq, or_self, or_false, false_or, or_true, true_or, if_false, gt_iff_lt, ge_iff_le, ne_eq, not_true_eq_false, not_false_eq_true, and_self, beq_self_eq_true, Bool.false_eq_true]; try (repeat (first | exact True.intro | exact Wk.refl _ | exact Wk.nilR _ _ _ | exact Wk.nil _ _ | exact Wk.dead _ | exact Wk.bT (by assumption) | exact Wk.bF (by assumption) | exact Wk.eqI (by omega) | exact WkS.refl _ | exact Wks.same _ | exact Wks.nil | exact WkS.nil | refine And.intro ?_ ?_ | refine Wk.aggs ?_ | refine Wk.tups ?_ | refine Wks.cons ?_ ?_ | refine WkS.cons (by first | exact fun _ => rfl | exact fun h => absurd h Bool.false_ne_true) ?_ ?_ ?_ | assumption | exact (fun h => h) | exact (fun h => absurd h Bool.false_ne_true) | intro _))))
      | cons y ys =>
        cases links with
        | nil =>
          dsimp only [rgT, rgS] at h1
          simp only [List.length_cons, List.length_nil] at hlen
          refine fnT C.spec_l12DrawSource ?_
          refine runC ?_
          refine r_calln [0] h1 ?_
          refine runC ?_
          refine r_call1p 0 h2 ?_
          refine runC ?_
          refine r_call1p 0 h3 ?_
          refine run ?_
          refine r_app (enc := zoneC) (y :: ys) [⟨90, 0, 97 + a⟩] (by simp only [List.length_cons, List.length_nil]; omega) ?_
          refine run ?_
          exact r_end [0] [5] (hres := by simp only [List.length_cons, List.length_append, List.length_nil, rowT_nil, List.cons_append, List.nil_append]; (simp only [go_sem, ↓reduceIte, Nat.reduceEqDiff, Nat.reduceMul, Nat.reduceAdd, Nat.reduceSub, Nat.reduceLT, Nat.reduceGT, Nat.reduceLeDiff, Nat.reduceBEq, Int.reduceLT, Int.reduceLE, Int.reduceNe, Int.reduceEq, Int.reduceToNat, Int.reduceAdd, Int.reduceSub, Int.reduceMul, Int.reduceNeg, Nat.reducePow, Int.reducePow, Nat.reduceSubDiff, decide_true, decide_false, reduceCtorEq, or_self, or_false, false_or, or_true, true_or, if_false, gt_iff_lt, ge_iff_le, ne_eq, not_true_eq_false, not_false_eq_true, and_self, beq_self_eq_true, Bool.false_eq_true]; try (repeat (first | exact True.intro | exact Wk.refl _ | exact Wk.nilR _ _ _ | exact Wk.nil _ _ | exact Wk.dead _ | exact Wk.bT (by assumption) | exact Wk.bF (by assumption) | exact Wk.eqI (by omega) | exact WkS.refl _ | exact Wks.same _ | exact Wks.nil | exact WkS.nil | refine And.intro ?_ ?_ | refine Wk.aggs ?_ | refine Wk.tups ?_ | refine Wks.cons ?_ ?_ | refine WkS.cons (by first | exact fun _ => rfl | exact fun h => absurd h Bool.false_ne_true) ?_ ?_ ?_ | assumption | exact (fun h => h) | exact (fun h => absurd h Bool.false_ne_true) | intro _))))
        | cons q qs =>
          dsimp only [rgT, rgS] at h1
          simp only [List.length_cons, List.length_nil] at hlen
          refine fnT C.spec_l12DrawSource ?_
          refine runC ?_
          refine r_calln [0] h1 ?_
          refine runC ?_
          refine r_call1p 0 h2 ?_
          refine runC ?_
          refine r_call1p 0 h3 ?_
          refine run ?_
          refine r_app (enc := zoneC) (y :: ys) [⟨90, 0, 97 + a⟩] (by simp only [List.length_cons, List.length_nil]; omega) ?_
          refine run ?_
          exact r_end [0] [6, 3] (hres := by simp only [List.length_cons, List.length_append, List.length_nil, rowT_nil, List.cons_append, List.nil_append]; (simp only [go_sem, ↓reduceIte, Nat.reduceEqDiff, Nat.reduceMul, Nat.reduceAdd, Nat.reduceSub, Nat.reduceLT, Nat.reduceGT, Nat.reduceLeDiff, Nat.reduceBEq, Int.reduceLT, Int.reduceLE, Int.reduceNe, Int.reduceEq, Int.reduceToNat, Int.reduceAdd, Int.reduceSub, Int.reduceMul, Int.reduceNeg, Nat.reducePow, Int.reducePow, Nat.reduceSubDiff, decide_true, decide_false, reduceCtorEq, or_self, or_false, false_or, or_true, true_or, if_false, gt_iff_lt, ge_iff_le, ne_eq, not_true_eq_false, not_false_eq_true, and_self, beq_self_eq_true, Bool.false_eq_true]; try (repeat (first | exact True.intro | exact Wk.refl _ | exact Wk.nilR _ _ _ | exact Wk.nil _ _ | exact Wk.dead _ | exact Wk.bT (by assumption) | exact Wk.bF (by assumption) | exact Wk.eqI (by omega) | exact WkS.refl _ | exact Wks.same _ | exact Wks.nil | exact WkS.nil | refine And.intro ?_ ?_ | refine Wk.aggs ?_ | refine Wk.tups ?_ | refine Wks.cons ?_ ?_ | refine WkS.cons (by first | exact fun _ => rfl | exact fun h => absurd h Bool.false_ne_true) ?_ ?_ ?_ | assumption | exact (fun h => h) | exact (fun h => absurd h Bool.false_ne_true) | intro _))))
    | cons x xs =>
      cases zones with
      | nil =>
        cases links with
        | nil =>
          dsimp only [rgT, rgS] at h1
          simp only [List.length_cons, List.length_nil] at hlen
          refine fnT C.spec_l12DrawSource ?_
          refine runC ?_
          refine r_calln [0] h1 ?_
          refine runC ?_
          refine r_call1p 0 h2 ?_
          refine runC ?_
          refine r_call1p 0 h3 ?_
          refine run ?_
          refine r_apz ?_
          refine run ?_
          exact r_end [0] [2, 5] (hres := by simp only [List.length_cons, List.length_append, List.length_nil, rowT_nil, List.cons_append, List.nil_append]; (simp only [go_sem, ↓reduceIte, Nat.reduceEqDiff, Nat.reduceMul, Nat.reduceAdd, Nat.reduceSub, Nat.reduceLT, Nat.reduceGT, Nat.reduceLeDiff, Nat.reduceBEq, Int.reduceLT, Int.reduceLE, Int.reduceNe, Int.reduceEq, Int.reduceToNat, Int.reduceAdd, Int.reduceSub, Int.reduceMul, Int.reduceNeg, Nat.reducePow, Int.reducePow, Nat.reduceSubDiff, decide_true, decide_false, reduceCtorEq, or_self, or_false, false_or, or_true, true_or, if_false, gt_iff_lt, ge_iff_le, ne_eq, not_true_eq_false, not_false_eq_true, and_self, beq_self_eq_true, Bool.false_eq_true]; try (repeat (first | exact True.intro | exact Wk.refl _ | exact Wk.nilR _ _ _ | exact Wk.nil _ _ | exact Wk.dead _ | exact Wk.bT (by assumption) | exact Wk.bF (by assumption) | exact Wk.eqI (by omega) | exact WkS.refl _ | exact Wks.same _ | exact Wks.nil | exact WkS.nil | refine And.intro ?_ ?_ | refine Wk.aggs ?_ | refine Wk.tups ?_ | refine Wks.cons ?_ ?_ | refine WkS.cons (by first | exact fun _ => rfl | exact fun h => absurd h Bool.false_ne_true) ?_ ?_ ?_ | assumption | exact (fun h => h) | exact (fun h => absurd h Bool.false_ne_true) | intro _))))
        | cons q qs =>
          dsimp only [rgT, rgS] at h1
          simp only [List.length_cons, List.length_nil] at hlen
          refine fnT C.spec_l12DrawSource ?_
          refine runC ?_
          refine r_calln [0] h1 ?_
          refine runC ?_
          refine r_call1p 0 h2 ?_
          refine runC ?_
          refine r_call1p 0 h3 ?_
          refine run ?_
          refine r_apz ?_
          refine run ?_
          exact r_end [0] [2, 6, 3] (hres := by simp only [List.length_cons, List.length_append, List.length_nil, rowT_nil, List.cons_append, List.nil_append]; (simp only [go_sem, ↓reduceIte, Nat.reduceEqDiff, Nat.reduceMul, Nat.reduceAdd, Nat.reduceSub, Nat.reduceLT, Nat.reduceGT, Nat.reduceLeDiff, Nat.reduceBEq, Int.reduceLT, Int.reduceLE, Int.reduceNe, Int.reduceEq, Int.reduceToNat, Int.reduceAdd, Int.reduceSub, Int.reduceMul, Int.reduceNeg, Nat.reducePow, Int.reducePow, Nat.reduceSubDiff, decide_true, decide_false, reduceCtorEq, or_self, or_false, false_or, or_true, true_or, if_false, gt_iff_lt, ge_iff_le, ne_eq, not_true_eq_false, not_false_eq_true, and_self, beq_self_eq_true, Bool.false_eq_true]; try (repeat (first | exact True.intro | exact Wk.refl _ | exact Wk.nilR _ _ _ | exact Wk.nil _ _ | exact Wk.dead _ | exact Wk.bT (by assumption) | exact Wk.bF (by assumption) | exact Wk.eqI (by omega) | exact WkS.refl _ | exact Wks.same _ | exact Wks.nil | exact WkS.nil | refine And.intro ?_ ?_ | refine Wk.aggs ?_ | refine Wk.tups ?_ | refine Wks.cons ?_ ?_ | refine WkS.cons (by first | exact fun _ => rfl | exact fun h => absurd h Bool.false_ne_true) ?_ ?_ ?_ | assumption | exact (fun h => h) | exact (fun h => absurd h Bool.false_ne_true) | intro _))))
      | cons y ys =>
        cases links with
        | nil =>
          dsimp only [rgT, rgS] at h1
          simp only [List.length_cons, List.length_nil] at hlen
          refine fnT C.spec_l12DrawSource ?_
          refine runC ?_
          refine r_calln [0] h1 ?_
          refine runC ?_
          refine r_call1p 0 h2 ?_
          refine runC ?_
          refine r_call1p 0 h3 ?_
          refine run ?_
          refine r_app (enc := zoneC) (y :: ys) [⟨90, 0, 97 + a⟩] (by simp only [List.length_cons, List.length_nil]; omega) ?_
          refine run ?_
          exact r_end [0] [2, 6] (hres := by simp only [List.length_cons, List.length_append, List.length_nil, rowT_nil, List.cons_append, List.nil_append]; (simp only [go_sem, ↓reduceIte, Nat.reduceEqDiff, Nat.reduceMul, Nat.reduceAdd, Nat.reduceSub, Nat.reduceLT, Nat.reduceGT, Nat.reduceLeDiff, Nat.reduceBEq, Int.reduceLT, Int.reduceLE, Int.reduceNe, Int.reduceEq, Int.reduceToNat, Int.reduceAdd, Int.reduceSub, Int.reduceMul, Int.reduceNeg, Nat.reducePow, Int.reducePow, Nat.reduceSubDiff, decide_true, decide_false, reduceCtorEq, or_self, or_false, false_or, or_true, true_or, if_false, gt_iff_lt, ge_iff_le, ne_eq, not_true_eq_false, not_false_eq_true, and_self, beq_self_eq_true, Bool.false_eq_true]; try (repeat (first | exact True.intro | exact Wk.refl _ | exact Wk.nilR _ _ _ | exact Wk.nil _ _ | exact Wk.dead _ | exact Wk.bT (by assumption) | exact Wk.bF (by assumption) | exact Wk.eqI (by omega) | exact WkS.refl _ | exact Wks.same _ | exact Wks.nil | exact WkS.nil | refine And.intro ?_ ?_ | refine Wk.aggs ?_ | refine Wk.tups ?_ | refine Wks.cons ?_ ?_ | refine WkS.cons (by first | exact fun _ => rfl | exact fun h => absurd h Bool.false_ne_true) ?_ ?_ ?_ | assumption | exact (fun h => h) | exact (fun h => absurd h Bool.false_ne_true) | intro _))))
        | cons q qs =>
          dsimp only [rgT, rgS] at h1
          simp only [List.length_cons, List.length_nil] at hlen
          refine fnT C.spec_l12DrawSource ?_
          refine runC ?_
          refine r_calln [0] h1 ?_
          refine runC ?_
          refine r_call1p 0 h2 ?_
          refine runC ?_
          refine r_call1p 0 h3 ?_
          refine run ?_
          refine r_app (enc := zoneC) (y :: ys) [⟨90, 0, 97 + a⟩] (by simp only [List.length_cons, List.length_nil]; omega) ?_
          refine run ?_
          exact r_end [0] [2, 7, 4] (hres := by simp only [List.length_cons, List.length_append, List.length_nil, rowT_nil, List.cons_append, List.nil_append]; (simp only [go_sem, ↓reduceIte, Nat.reduceEqDiff, Nat.reduceMul, Nat.reduceAdd, Nat.reduceSub, Nat.reduceLT, Nat.reduceGT, Nat.reduceLeDiff, Nat.reduceBEq, Int.reduceLT, Int.reduceLE, Int.reduceNe, Int.reduceEq, Int.reduceToNat, Int.reduceAdd, Int.reduceSub, Int.reduceMul, Int.reduceNeg, Nat.reducePow, Int.reducePow, Nat.reduceSubDiff, decide_true, decide_false, reduceCtorEq, or_self, or_false, false_or, or_true, true_or, if_false, gt_iff_lt, ge_iff_le, ne_eq, not_true_eq_false, not_false_eq_true, and_self, beq_self_eq_true, Bool.false_eq_true]; try (repeat (first | exact True.intro | exact Wk.refl _ | exact Wk.nilR _ _ _ | exact Wk.nil _ _ | exact Wk.dead _ | exact Wk.bT (by assumption) | exact Wk.bF (by assumption) | exact Wk.eqI (by omega) | exact WkS.refl _ | exact Wks.same _ | exact Wks.nil | exact WkS.nil | refine And.intro ?_ ?_ | refine Wk.aggs ?_ | refine Wk.tups ?_ | refine Wks.cons ?_ ?_ | refine WkS.cons (by first | exact fun _ => rfl | exact fun h => absurd h Bool.false_ne_true) ?_ ?_ ?_ | assumption | exact (fun h => h) | exact (fun h => absurd h Bool.false_ne_true) | intro _))))
  have t0 : decide (v = 0) = false := decide_eq_false v0
  have t1 : decide (v = 1) = false := decide_eq_false v1
  have t2 : decide (v = 2) = false := decide_eq_false v2
  have t3 : decide (v = 3) = false := decide_eq_false v3
  refine ⟨rules, zones, links, c2, hc2, ⟨by omega, by omega, by omega⟩, ?_⟩
  cases rules with
  | nil =>
    cases zones with
    | nil =>
      cases links with
      | nil =>
        dsimp only [rgT, rgS] at h1
        simp only [List.length_cons, List.length_nil] at hlen
        refine fnT C.spec_l12DrawSource ?_
        refine runC ?_
        refine r_calln [0] h1 ?_
        refine runC ?_
        refine r_call1p 0 h2 ?_
        refine run ?_
        exact r_end [0] [] (hres := by simp only [List.length_cons, List.length_nil, rowT_nil]; (simp only [go_sem, ↓reduceIte, Nat.reduceEqDiff, Nat.reduceMul, Nat.reduceAdd, Nat.reduceSub, Nat.reduceLT, Nat.reduceGT, Nat.reduceLeDiff, Nat.reduceBEq, Int.reduceLT, Int.reduceLE, Int.reduceNe, Int.reduceEq, Int.reduceToNat, Int.reduceAdd, Int.reduceSub, Int.reduceMul, Int.reduceNeg, Nat.reducePow, Int.reducePow, Nat.reduceSubDiff, decide_true, decide_false, reduceCtorEq, or_self, or_false, false_or, or_true, true_or, if_false, gt_iff_lt, ge_iff_le, ne_eq, not_true_eq_false, not_false_eq_true, and_self, beq_self_eq_true, Bool.false_eq_true]; try (repeat (first | exact True.intro | exact Wk.refl _ | exact Wk.nilR _ _ _ | exact Wk.nil _ _ | exact Wk.dead _ | exact Wk.bT (by assumption) | exact Wk.bF (by assumption) | exact Wk.eqI (by omega) | exact WkS.refl _ | exact Wks.same _ | exact Wks.nil | exact WkS.nil | refine And.intro ?_ ?_ | refine Wk.aggs ?_ | refine Wk.tups ?_ | refine Wks.cons ?_ ?_ | refine WkS.cons (by first | exact fun _ => rfl | exact fun h => absurd h Bool.false_ne_true) ?_ ?_ ?_ | assumption | exact (fun h => h) | exact (fun h => absurd h Bool.false_ne_true) | intro _))))
      | cons q qs =>
        dsimp only [rgT, rgS] at h1
        simp only [List.length_cons, List.length_nil] at hlen
        refine fnT C.spec_l12DrawSource ?_
        refine runC ?_
        refine r_calln [0] h1 ?_
        refine runC ?_
        refine r_call1p 0 h2 ?_
        refine run ?_
        exact r_end [0] [2] (hres := by simp only [List.length_cons, List.length_nil, rowT_nil]; (simp only [go_sem, ↓reduceIte, Nat.reduceEqDiff, Nat.reduceMul, Nat.reduceAdd, Nat.reduceSub, Nat.reduceLT, Nat.reduceGT, Nat.reduceLeDiff, Nat.reduceBEq, Int.reduceLT, Int.reduceLE, Int.reduceNe, Int.reduceEq, Int.reduceToNat, Int.reduceAdd, Int.reduceSub, Int.reduceMul, Int.reduceNeg, Nat.reducePow, Int.reducePow, Nat.reduceSubDiff, decide_true, decide_false, reduceCtorEq, or_self, or_false, false_or, or_true, true_or, if_false, gt_iff_lt, ge_iff_le, ne_eq, not_true_eq_false, not_false_eq_true, and_self, beq_self_eq_true, Bool.false_eq_true]; try (repeat (first | exact True.intro | exact Wk.refl _ | exact Wk.nilR _ _ _ | exact Wk.nil _ _ | exact Wk.dead _ | exact Wk.bT (by assumption) | exact Wk.bF (by assumption) | exact Wk.eqI (by omega) | exact WkS.refl _ | exact Wks.same _ | exact Wks.nil | exact WkS.nil | refine And.intro ?_ ?_ | refine Wk.aggs ?_ | refine Wk.tups ?_ | refine Wks.cons ?_ ?_ | refine WkS.cons (by first | exact fun _ => rfl | exact fun h => absurd h Bool.false_ne_true) ?_ ?_ ?_ | assumption | exact (fun h => h) | exact (fun h => absurd h Bool.false_ne_true) | intro _))))
    | cons y ys =>
      cases links with
      | nil =>
        dsimp only [rgT, rgS] at h1
        simp only [List.length_cons, List.length_nil] at hlen
        refine fnT C.spec_l12DrawSource ?_
        refine runC ?_
        refine r_calln [0] h1 ?_
        refine runC ?_
        refine r_call1p 0 h2 ?_
        refine run ?_
        exact r_end [0] [2] (hres := by simp only [List.length_cons, List.length_nil, rowT_nil]; (simp only [go_sem, ↓reduceIte, Nat.reduceEqDiff, Nat.reduceMul, Nat.reduceAdd, Nat.reduceSub, Nat.reduceLT, Nat.reduceGT, Nat.reduceLeDiff, Nat.reduceBEq, Int.reduceLT, Int.reduceLE, Int.reduceNe, Int.reduceEq, Int.reduceToNat, Int.reduceAdd, Int.reduceSub, Int.reduceMul, Int.reduceNeg, Nat.reducePow, Int.reducePow, Nat.reduceSubDiff, decide_true, decide_false, reduceCtorEq, or_self, or_false, false_or, or_true, true_or, if_false, gt_iff_lt, ge_iff_le, ne_eq, not_true_eq_false, not_false_eq_true, and_self, beq_self_eq_true, Bool.false_eq_true]; try (repeat (first | exact True.intro | exact Wk.refl _ | exact Wk.nilR _ _ _ | exact Wk.nil _ _ | exact Wk.dead _ | exact Wk.bT (by assumption) | exact Wk.bF (by assumption) | exact Wk.eqI (by omega) | exact WkS.refl _ | exact Wks.same _ | exact Wks.nil | exact WkS.nil | refine And.intro ?_ ?_ | refine Wk.aggs ?_ | refine Wk.tups ?_ | refine Wks.cons ?_ ?_ | refine WkS.cons (by first | exact fun _ => rfl | exact fun h => absurd h Bool.false_ne_true) ?_ ?_ ?_ | assumption | exact (fun h => h) | exact (fun h => absurd h Bool.false_ne_true) | intro _))))
      | cons q qs =>
        dsimp only [rgT, rgS] at h1
        simp only [List.length_cons, List.length_nil] at hlen
        refine fnT C.spec_l12DrawSource ?_
        refine runC ?_
        refine r_calln [0] h1 ?_
        refine runC ?_
        refine r_call1p 0 h2 ?_
        refine run ?_
        exact r_end [0] [2, 3] (hres := by simp only [List.length_cons, List.length_nil, rowT_nil]; (simp only [go_sem, ↓reduceIte, Nat.reduceEqDiff, Nat.reduceMul, Nat.reduceAdd, Nat.reduceSub, Nat.reduceLT, Nat.reduceGT, Nat.reduceLeDiff, Nat.reduceBEq, Int.reduceLT, Int.reduceLE, Int.reduceNe, Int.reduceEq, Int.reduceToNat, Int.reduceAdd, Int.reduceSub, Int.reduceMul, Int.reduceNeg, Nat.reducePow, Int.reducePow, Nat.reduceSubDiff, decide_true, decide_false, reduceCtorEq, or_self, or_false, false_or, or_true, true_or, if_false, gt_iff_lt, ge_iff_le, ne_eq, not_true_eq_false, not_false_eq_true, and_self, beq_self_eq_true, Bool.false_eq_true]; try (repeat (first | exact True.intro | exact Wk.refl _ | exact Wk.nilR _ _ _ | exact Wk.nil _ _ | exact Wk.dead _ | exact Wk.bT (by assumption) | exact Wk.bF (by assumption) | exact Wk.eqI (by omega) | exact WkS.refl _ | exact Wks.same _ | exact Wks.nil | exact WkS.nil | refine And.intro ?_ ?_ | refine Wk.aggs ?_ | refine Wk.tups ?_ | refine Wks.cons ?_ ?_ | refine WkS.cons (by first | exact fun _ => rfl | exact fun h => absurd h Bool.false_ne_true) ?_ ?_ ?_ | assumption | exact (fun h => h) | exact (fun h => absurd h Bool.false_ne_true) | intro _))))
  | cons x xs =>
    cases zones with
    | nil =>
      cases links with
      | nil =>
        dsimp only [rgT, rgS] at h1
        simp only [List.length_cons, List.length_nil] at hlen
        refine fnT C.spec_l12DrawSource ?_
        refine runC ?_
        refine r_calln [0] h1 ?_
        refine runC ?_
        refine r_call1p 0 h2 ?_
        refine run ?_
        exact r_end [0] [2] (hres := by simp only [List.length_cons, List.length_nil, rowT_nil]; (simp only [go_sem, ↓reduceIte, Nat.reduceEqDiff, Nat.reduceMul, Nat.reduceAdd, Nat.reduceSub, Nat.reduceLT, Nat.reduceGT, Nat.reduceLeDiff, Nat.reduceBEq, Int.reduceLT, Int.reduceLE, Int.reduceNe, Int.reduceEq, Int.reduceToNat, Int.reduceAdd, Int.reduceSub, Int.reduceMul, Int.reduceNeg, Nat.reducePow, Int.reducePow, Nat.reduceSubDiff, decide_true, decide_false, reduceCtorEq, or_self, or_false, false_or, or_true, true_or, if_false, gt_iff_lt, ge_iff_le, ne_eq, not_true_eq_false, not_false_eq_true, and_self, beq_self_eq_true, Bool.false_eq_true]; try (repeat (first | exact True.intro | exact Wk.refl _ | exact Wk.nilR _ _ _ | exact Wk.nil _ _ | exact Wk.dead _ | exact Wk.bT (by assumption) | exact Wk.bF (by assumption) | exact Wk.eqI (by omega) | exact WkS.refl _ | exact Wks.same _ | exact Wks.nil | exact WkS.nil | refine And.intro ?_ ?_ | refine Wk.aggs ?_ | refine Wk.tups ?_ | refine Wks.cons ?_ ?_ | refine WkS.cons (by first | exact fun _ => rfl | exact fun h => absurd h Bool.false_ne_true) ?_ ?_ ?_ | assumption | exact (fun h => h) | exact (fun h => absurd h Bool.false_ne_true) | intro _))))
      | cons q qs =>
        dsimp only [rgT, rgS] at h1
        simp only [List.length_cons, List.length_nil] at hlen
        refine fnT C.spec_l12DrawSource ?_
        refine runC ?_
        refine r_calln [0] h1 ?_
        refine runC ?_
        refine r_call1p 0 h2 ?_
        refine run ?_
        exact r_end [0] [2, 3] (hres := by simp only [List.length_cons, List.length_nil, rowT_nil]; (simp only [go_sem, ↓reduceIte, Nat.reduceEqDiff, Nat.reduceMul, Nat.reduceAdd, Nat.reduceSub, Nat.reduceLT, Nat.reduceGT, Nat.reduceLeDiff, Nat.reduceBEq, Int.reduceLT, Int.reduceLE, Int.reduceNe, Int.reduceEq, Int.reduceToNat, Int.reduceAdd, Int.reduceSub, Int.reduceMul, Int.reduceNeg, Nat.reducePow, Int.reducePow, Nat.reduceSubDiff, decide_true, decide_false, reduceCtorEq, or_self, or_false, false_or, or_true, true_or, if_false, gt_iff_lt, ge_iff_le, ne_eq, not_true_eq_false, not_false_eq_true, and_self, beq_self_eq_true, Bool.false_eq_true]; try (repeat (first | exact True.intro | exact Wk.refl _ | exact Wk.nilR _ _ _ | exact Wk.nil _ _ | exact Wk.dead _ | exact Wk.bT (by assumption) | exact Wk.bF (by assumption) | exact Wk.eqI (by omega) | exact WkS.refl _ | exact Wks.same _ | exact Wks.nil | exact WkS.nil | refine And.intro ?_ ?_ | refine Wk.aggs ?_ | refine Wk.tups ?_ | refine Wks.cons ?_ ?_ | refine WkS.cons (by first | exact fun _ => rfl | exact fun h => absurd h Bool.false_ne_true) ?_ ?_ ?_ | assumption | exact (fun h => h) | exact (fun h => absurd h Bool.false_ne_true) | intro _))))
    | cons y ys =>
      cases links with
      | nil =>
        dsimp only [rgT, rgS] at h1
        simp only [List.length_cons, List.length_nil] at hlen
        refine fnT C.spec_l12DrawSource ?_
        refine runC ?_
        refine r_calln [0] h1 ?_
        refine runC ?_
        refine r_call1p 0 h2 ?_
        refine run ?_
        exact r_end [0] [2, 3] (hres := by simp only [List.length_cons, List.length_nil, rowT_nil]; (simp only [go_sem, ↓reduceIte, Nat.reduceEqDiff, Nat.reduceMul, Nat.reduceAdd, Nat.reduceSub, Nat.reduceLT, Nat.reduceGT, Nat.reduceLeDiff, Nat.reduceBEq, Int.reduceLT, Int.reduceLE, Int.reduceNe, Int.reduceEq, Int.reduceToNat, Int.reduceAdd, Int.reduceSub, Int.reduceMul, Int.reduceNeg, Nat.reducePow, Int.reducePow, Nat.reduceSubDiff, decide_true, decide_false, reduceCtorEq, or_self, or_false, false_or, or_true, true_or, if_false, gt_iff_lt, ge_iff_le, ne_eq, not_true_eq_false, not_false_eq_true, and_self, beq_self_eq_true, Bool.false_eq_true]; try (repeat (first | exact True.intro | exact Wk.refl _ | exact Wk.nilR _ _ _ | exact Wk.nil _ _ | exact Wk.dead _ | exact Wk.bT (by assumption) | exact Wk.bF (by assumption) | exact Wk.eqI (by omega) | exact WkS.refl _ | exact Wks.same _ | exact Wks.nil | exact WkS.nil | refine And.intro ?_ ?_ | refine Wk.aggs ?_ | refine Wk.tups ?_ | refine Wks.cons ?_ ?_ | refine WkS.cons (by first | exact fun _ => rfl | exact fun h => absurd h Bool.false_ne_true) ?_ ?_ ?_ | assumption | exact (fun h => h) | exact (fun h => absurd h Bool.false_ne_true) | intro _))))
      | cons q qs =>
        dsimp only [rgT, rgS] at h1
        simp only [List.length_cons, List.length_nil] at hlen
        refine fnT C.spec_l12DrawSource ?_
        refine runC ?_
        refine r_calln [0] h1 ?_
        refine runC ?_
        refine r_call1p 0 h2 ?_
        refine run ?_
        exact r_end [0] [2, 3, 4] (hres := by simp only [List.length_cons, List.length_nil, rowT_nil]; (simp only [go_sem, ↓reduceIte, Nat.reduceEqDiff, Nat.reduceMul, Nat.reduceAdd, Nat.reduceSub, Nat.reduceLT, Nat.reduceGT, Nat.reduceLeDiff, Nat.reduceBEq, Int.reduceLT, Int.reduceLE, Int.reduceNe, Int.reduceEq, Int.reduceToNat, Int.reduceAdd, Int.reduceSub, Int.reduceMul, Int.reduceNeg, Nat.reducePow, Int.reducePow, Nat.reduceSubDiff, decide_true, decide_false, reduceCtorEq, or_self, or_false, false_or, or_true, true_or, if_false, gt_iff_lt, ge_iff_le, ne_eq, not_true_eq_false, not_false_eq_true, and_self, beq_self_eq_true, Bool.false_eq_true]; try (repeat (first | exact True.intro | exact Wk.refl _ | exact Wk.nilR _ _ _ | exact Wk.nil _ _ | exact Wk.dead _ | exact Wk.bT (by assumption) | exact Wk.bF (by assumption) | exact Wk.eqI (by omega) | exact WkS.refl _ | exact Wks.same _ | exact Wks.nil | exact WkS.nil | refine And.intro ?_ ?_ | refine Wk.aggs ?_ | refine Wk.tups ?_ | refine Wks.cons ?_ ?_ | refine WkS.cons (by first | exact fun _ => rfl | exact fun h => absurd h Bool.false_ne_true) ?_ ?_ ?_ | assumption | exact (fun h => h) | exact (fun h => absurd h Bool.false_ne_true) | intro _))))

theorem drawSourceOk_ex (l : List Int) (hpre : (∀ x ∈ l, 0 ≤ x ∧ x < 256) ∧ l.length ≤ 140737488351232) : ∃ (rules : List RuleV) (zones : List ZoneV) (links : List LinkV), (rules.length ≤ 20 ∧ zones.length ≤ 4 ∧ links.length ≤ 3) ∧ CallsT Try.prog [] F.spec_DrawSourceOk [.sl false 0 l.length 1 (rowT u8C l)] (.agg [.sl false 0 rules.length 9 (rowT ruleC rules), .sl false 0 zones.length 3 (rowT zoneC zones), .sl false 0 links.length 2 (rowT linkC links)]) [] := by
  have hn := spec_l1New l hpre
  obtain ⟨rules, zones, links, c', hc', hlen, h1⟩ := source12_ex l (0, newS l (newN l)) ⟨hpre.1, hpre.2, by dsimp only; omega, by dsimp only; omega⟩
  refine ⟨rules, zones, links, hlen, ?_⟩
  refine fnT C.spec_DrawSourceOk ?_
  refine runC ?_
  refine r_callp false hn ?_
  refine runC ?_
  refine r_call1p 1 h1 ?_
  refine run ?_
  exact r_end [] []

end Go.TL
