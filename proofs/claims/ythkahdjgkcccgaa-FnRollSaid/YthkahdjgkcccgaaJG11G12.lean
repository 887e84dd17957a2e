/- Texts joined. No conditions but those that are written. -/
import Derived.Test.YthkahdjgkcccgaaG10
/- Commands and rolls that are drawn: that there is one, whatever the bytes. No conditions but those that are written. -/
namespace Go.TL
set_option linter.unusedSimpArgs false
open Go.Proofs Go.RowKit
attribute [local irreducible] wpOpsT wpT EndT Ex.seq Ex.block W

set_option maxHeartbeats 4000000 in
theorem cmd_ex (l : List Int) (c : Int × Int) (hc : curP l c.1) : ∃ (y : CmdV) (c' : Int × Int), y.dig.size ≤ 33 ∧ curP l c'.1 ∧ CallsT Try.prog [⟨0, true, [.sl false 0 l.length 1 (rowT u8C l), .v (.int .i64 c.1), .v (.int .i64 c.2)]⟩] F.spec_l5DrawCmd [.ptr 0 [] 0] (.agg [.v (.int .i64 y.kind), .v (.int .i64 y.rel), .v (.int .i64 y.node), .v (.int .i64 y.size), .v (.string y.dig)]) [⟨0, true, [.sl false 0 l.length 1 (rowT u8C l), .v (.int .i64 (c'.1)), .v (.int .i64 (c'.2))]⟩] := by
  obtain ⟨x, c1, ⟨hx, _⟩, hc1, h1⟩ := right_ex l c hc
  obtain ⟨v, c2, hv, hc2, h2⟩ := below_ex l c1 25 hc1 (by omega)
  by_cases v0 : v = 0
  · subst v0
    obtain ⟨w, c3, hw, hc3, h3⟩ := below_ex l c2 7 hc2 (by omega)
    refine ⟨{ x with kind := w }, c3, by dsimp only; omega, hc3, ?_⟩
    refine fnT C.spec_l5DrawCmd ?_
    refine runC ?_
    refine r_call1p 0 h1 ?_
    refine runC ?_
    refine r_call1p 0 h2 ?_
    refine runC ?_
    refine r_call1p 0 h3 ?_
    refine run ?_
    exact r_end [0] [] (hm := keep_one _)
  by_cases v1 : v = 1
  · subst v1
    obtain ⟨w, c3, hw, hc3, h3⟩ := pick_ex l c2 [0, 1000, 1001] hc2 ⟨by decide, by decide⟩
    refine ⟨{ x with rel := w }, c3, by dsimp only; omega, hc3, ?_⟩
    refine fnT C.spec_l5DrawCmd ?_
    refine runC ?_
    refine r_call1p 0 h1 ?_
    refine runC ?_
    refine r_call1p 0 h2 ?_
    refine runC ?_
    refine r_call1p 0 (h3 1) ?_
    refine run ?_
    exact r_end [0] [] (hm := keep_one _)
  by_cases v2 : v = 2
  · subst v2
    obtain ⟨w, c3, hw, hc3, h3⟩ := pick_ex l c2 [-1, 4, 5] hc2 ⟨by decide, by decide⟩
    refine ⟨{ x with node := w }, c3, by dsimp only; omega, hc3, ?_⟩
    refine fnT C.spec_l5DrawCmd ?_
    refine runC ?_
    refine r_call1p 0 h1 ?_
    refine runC ?_
    refine r_call1p 0 h2 ?_
    refine runC ?_
    refine r_call1p 0 (h3 1) ?_
    refine run ?_
    exact r_end [0] [] (hm := keep_one _)
  by_cases v3 : v = 3
  · subst v3
    obtain ⟨w, c3, hw, hc3, h3⟩ := pick_ex l c2 [-1, 1000, 1001] hc2 ⟨by decide, by decide⟩
    refine ⟨{ x with size := w }, c3, by dsimp only; omega, hc3, ?_⟩
    refine fnT C.spec_l5DrawCmd ?_
    refine runC ?_
    refine r_call1p 0 h1 ?_
    refine runC ?_
    refine r_call1p 0 h2 ?_
    refine runC ?_
    refine r_call1p 0 (h3 1) ?_
    refine run ?_
    exact r_end [0] [] (hm := keep_one _)
  have z1 : (⟨#[120]⟩ : ByteArray).size = 1 := rfl
  by_cases v4 : v = 4
  · subst v4
    refine ⟨{ x with dig := x.dig ++ ⟨#[120]⟩ }, c2, by dsimp only; rw [ByteArray.size_append]; omega, hc2, ?_⟩
    refine fnT C.spec_l5DrawCmd ?_
    refine runC ?_
    refine r_call1p 0 h1 ?_
    refine runC ?_
    refine r_call1p 0 h2 ?_
    refine run ?_
    exact r_end [0] [] (hm := keep_one _)
  refine ⟨x, c2, by omega, hc2, ?_⟩
  refine fnT C.spec_l5DrawCmd ?_
  refine runC ?_
  refine r_call1p 0 h1 ?_
  refine runC ?_
  refine r_call1p 0 h2 ?_
  refine run ?_
  exact r_end [0] [] (hm := keep_one _)

/-! ### Rolls -/
theorem tot_order (rels : List RelV) (order : List Int) (w : Int) : totRoll rels (order ++ [w]) = totRoll rels order + 1 := by
  simp only [totRoll, totIS, List.length_append, List.length_cons, List.length_nil]; omega
theorem tot_rels (rels : List RelV) (order : List Int) (x : RelV) : totRoll (rels ++ [x]) order = totRoll rels order + 1 + x.dig.size + x.ready.length := by
  simp only [totRoll, totRelS, sum_ap, List.length_append, List.length_cons, List.length_nil, sum_cons, totRelV, totRel, totIS]
  simp only [sumI, List.map_nil, List.sum_nil]
  omega
theorem tot_set {rels : List RelV} {order : List Int} {i : Nat} {x : RelV} (hi : i < rels.length) (hd : x.dig = (nth rels (i : Nat)).dig) (hr : x.ready = (nth rels (i : Nat)).ready) : totRoll (rels.set i x) order = totRoll rels order := by
  simp only [totRoll, totRelS, List.length_set, sum_set _ _ _ _ hi, totRelV, totRel, totIS, hd, hr]
  omega

set_option linter.unusedSimpArgs false in
set_option maxHeartbeats 8000000 in
theorem roll_ex (l : List Int) (c : Int × Int) (hc : curP l c.1) :
    ∃ (x : RollV) (c' : Int × Int), totRoll x.rels x.order ≤ 4000 ∧ curP l c'.1 ∧ CallsT Try.prog [⟨0, true, [.sl false 0 l.length 1 (rowT u8C l), .v (.int .i64 c.1), .v (.int .i64 c.2)]⟩] F.spec_l7DrawRoll [.ptr 0 [] 0] (.agg [.v (.int .i64 x.of), nilR 1 x.rels, .v (.int .i64 x.act), .ref 2 [] 0 x.order.length]) [⟨0, true, [.sl false 0 l.length 1 (rowT u8C l), .v (.int .i64 (c'.1)), .v (.int .i64 (c'.2))]⟩, ⟨5, !x.rels.isEmpty, rowT relO x.rels⟩, ⟨1, true, rowT i64C x.order⟩] := by
  obtain ⟨x, c1, hx, hc1, h1⟩ := right_rollS l c 30 hc (by omega)
  have htx := rollX_tot hx
  have hlx : (x.rels.length : Int) ≤ 30 := hx.2.1
  have hlo : x.order.length ≤ 2000 := by
    have h3 := sum_nn totRelV_nn x.rels
    have h6 : totIS x.order = x.order.length := rfl
    unfold totRoll totRelS at htx
    omega
  clear hx
  obtain ⟨v, c2, hv, hc2, h2⟩ := below_ex l c1 25 hc1 (by omega)
  by_cases v0 : v = 0
  · subst v0
    obtain ⟨w, c3, hw, hc3, h3⟩ := below_ex l c2 6 hc2 (by omega)
    refine ⟨{ x with of := w }, c3, by dsimp only; omega, hc3, ?_⟩
    refine fnT C.spec_l7DrawRoll ?_
    refine runC ?_
    refine r_calln [0] h1 ?_
    refine runC ?_
    refine r_call1p 0 h2 ?_
    refine runC ?_
    refine r_call1p 0 h3 ?_
    refine run ?_
    exact r_end [0, 2, 3] []
  by_cases v1 : v = 1
  · subst v1
    obtain ⟨w, c3, hw, hc3, h3⟩ := below_ex l c2 3 hc2 (by omega)
    refine ⟨{ x with act := wrap64 (x.act + w) }, c3, by dsimp only; omega, hc3, ?_⟩
    refine fnT C.spec_l7DrawRoll ?_
    refine runC ?_
    refine r_calln [0] h1 ?_
    refine runC ?_
    refine r_call1p 0 h2 ?_
    refine runC ?_
    refine r_call1p 0 h3 ?_
    refine run ?_
    exact r_end [0, 2, 3] []
  by_cases v2 : v = 2
  · subst v2
    obtain ⟨w, c3, hw, hc3, h3⟩ := below_ex l c2 5 hc2 (by omega)
    refine ⟨{ x with order := x.order ++ [w] }, c3, by dsimp only; rw [tot_order]; omega, hc3, ?_⟩
    refine fnT C.spec_l7DrawRoll ?_
    refine runC ?_
    refine r_calln [0] h1 ?_
    refine runC ?_
    refine r_call1p 0 h2 ?_
    refine runC ?_
    refine r_call1p 0 h3 ?_
    refine run ?_
    exact r_end [0, 2, 6] []
  obtain ⟨of, rels, act, order⟩ := x
  dsimp only at htx hlx hlo h1
  by_cases v3 : v = 3
  · subst v3
    cases rels with
    | nil =>
      refine ⟨⟨of, [], act, order⟩, c2, by dsimp only; omega, hc2, ?_⟩
      refine fnT C.spec_l7DrawRoll ?_
      refine runC ?_
      refine r_calln [0] h1 ?_
      refine runC ?_
      refine r_call1p 0 h2 ?_
      refine run ?_
      exact r_end [0, 2, 3] []
    | cons a r =>
      obtain ⟨w, c3, hw, hc3, h3⟩ := below_ex l c2 5 hc2 (by omega)
      have hts : totRoll ({ a with state := w } :: r) order = totRoll (a :: r) order := tot_set (rels := a :: r) (i := 0) (x := { a with state := w }) (by simp) rfl rfl
      refine ⟨⟨of, { a with state := w } :: r, act, order⟩, c3, by dsimp only; rw [hts]; omega, hc3, ?_⟩
      rw [nilR_ne 1 (List.cons_ne_nil a r), isE (List.cons_ne_nil a r)] at h1
      refine fnT C.spec_l7DrawRoll ?_
      refine runC ?_
      refine r_calln [0] h1 ?_
      refine runC ?_
      refine r_call1p 0 h2 ?_
      rw [rowT_cons]
      dsimp only [relO, List.cons_append, List.nil_append]
      refine runC ?_
      refine r_call1p 0 h3 ?_
      refine run ?_
      refine r_stw ?_
      refine run ?_
      rw [nilR_ne 1 (List.cons_ne_nil _ r), isE (List.cons_ne_nil _ r), rowT_cons]
      refine r_end [0, 2, 3] [] (hs := ?_) (hres := by (simp only [go_sem, ↓reduceIte, Nat.reduceEqDiff, Nat.reduceMul, Nat.reduceAdd, Nat.reduceSub, Nat.reduceLT, Nat.reduceGT, Nat.reduceLeDiff, Nat.reduceBEq, Int.reduceLT, Int.reduceLE, Int.reduceNe, Int.reduceEq, Int.reduceToNat, Int.reduceAdd, Int.reduceSub, Int.reduceMul, Int.reduceNeg, Nat.reducePow, Int.reducePow, Nat.reduceSubDiff, decide_true, decide_false, reduceCtorEq, or_self, or_false, false_or, or_true, true_or, if_false, gt_iff_lt, ge_iff_le, ne_eq, not_true_eq_false, not_false_eq_true, and_self, beq_self_eq_true, Bool.false_eq_true]; try (repeat (first | exact True.intro | exact Wk.refl _ | exact Wk.nilR _ _ _ | exact Wk.nil _ _ | exact Wk.dead _ | exact Wk.bT (by assumption) | exact Wk.bF (by assumption) | exact Wk.eqI (by omega) | exact WkS.refl _ | exact Wks.same _ | exact Wks.nil | exact WkS.nil | refine And.intro ?_ ?_ | refine Wk.aggs ?_ | refine Wk.tups ?_ | refine Wks.cons ?_ ?_ | refine WkS.cons (by first | exact fun _ => rfl | exact fun h => absurd h Bool.false_ne_true) ?_ ?_ ?_ | assumption | exact (fun h => h) | exact (fun h => absurd h Bool.false_ne_true) | intro _))))
      dsimp only [relO]
      (simp (disch := omega) only [go_sem, ↓reduceIte, Nat.reduceEqDiff, Nat.reduceMul, Nat.reduceAdd, Nat.reduceSub, Nat.reduceLT, Nat.reduceGT, Nat.reduceLeDiff, Nat.reduceBEq, Int.reduceLT, Int.reduceLE, Int.reduceNe, Int.reduceEq, Int.reduceToNat, Int.reduceAdd, Int.reduceSub, Int.reduceMul, Int.reduceNeg, Nat.reducePow, Int.reducePow, Nat.reduceSubDiff, decide_true, decide_false, reduceCtorEq, or_self, or_false, false_or, or_true, true_or, if_false, gt_iff_lt, ge_iff_le, ne_eq, not_true_eq_false, not_false_eq_true, and_self, beq_self_eq_true, Bool.false_eq_true, List.append_assoc]; exact WkS.refl _)
  by_cases v4 : v = 4
  · subst v4
    obtain ⟨w, c3, hw, hc3, h3⟩ := below_ex l c2 5 hc2 (by omega)
    obtain ⟨d, c4, hd, hc4, h4⟩ := digest_ex l c3 hc3
    refine ⟨⟨of, rels ++ [⟨w, 0, d, [], 1⟩], act, order⟩, c4, by dsimp only; rw [tot_rels]; dsimp only [List.length_nil]; omega, hc4, ?_⟩
    dsimp only
    rw [nilR_ne 1 (ne_app rels _), live_app]
    by_cases hne : rels = []
    · subst hne
      refine fnT C.spec_l7DrawRoll ?_
      refine runC ?_
      refine r_calln [0] h1 ?_
      refine runC ?_
      refine r_call1p 0 h2 ?_
      refine runC ?_
      refine r_call1p 0 h3 ?_
      refine runC ?_
      refine r_call1p 0 h4 ?_
      refine run ?_
      refine r_apz ?_
      refine run ?_
      refine r_end [0, 6, 3] [] (hs := ?_) (hres := by (simp only [go_sem, ↓reduceIte, Nat.reduceEqDiff, Nat.reduceMul, Nat.reduceAdd, Nat.reduceSub, Nat.reduceLT, Nat.reduceGT, Nat.reduceLeDiff, Nat.reduceBEq, Int.reduceLT, Int.reduceLE, Int.reduceNe, Int.reduceEq, Int.reduceToNat, Int.reduceAdd, Int.reduceSub, Int.reduceMul, Int.reduceNeg, Nat.reducePow, Int.reducePow, Nat.reduceSubDiff, decide_true, decide_false, reduceCtorEq, or_self, or_false, false_or, or_true, true_or, if_false, gt_iff_lt, ge_iff_le, ne_eq, not_true_eq_false, not_false_eq_true, and_self, beq_self_eq_true, Bool.false_eq_true]; try (repeat (first | exact True.intro | exact Wk.refl _ | exact Wk.nilR _ _ _ | exact Wk.nil _ _ | exact Wk.dead _ | exact Wk.bT (by assumption) | exact Wk.bF (by assumption) | exact Wk.eqI (by omega) | exact WkS.refl _ | exact Wks.same _ | exact Wks.nil | exact WkS.nil | refine And.intro ?_ ?_ | refine Wk.aggs ?_ | refine Wk.tups ?_ | refine Wks.cons ?_ ?_ | refine WkS.cons (by first | exact fun _ => rfl | exact fun h => absurd h Bool.false_ne_true) ?_ ?_ ?_ | assumption | exact (fun h => h) | exact (fun h => absurd h Bool.false_ne_true) | intro _))))
      rw [rowT_append, rowT_1]
      simp (disch := omega) only [go_sem, ↓reduceIte, Nat.reduceEqDiff, Nat.reduceMul, Nat.reduceAdd, Nat.reduceSub, Nat.reduceLT, Nat.reduceGT, Nat.reduceLeDiff, Nat.reduceBEq, Int.reduceLT, Int.reduceLE, Int.reduceNe, Int.reduceEq, Int.reduceToNat, Int.reduceAdd, Int.reduceSub, Int.reduceMul, Int.reduceNeg, Nat.reducePow, Int.reducePow, Nat.reduceSubDiff, decide_true, decide_false, reduceCtorEq, or_self, or_false, false_or, or_true, true_or, if_false, gt_iff_lt, ge_iff_le, ne_eq, not_true_eq_false, not_false_eq_true, and_self, beq_self_eq_true, Bool.false_eq_true]
      exact .cons (fun _ => rfl) (fun h => h) (fun _ => .same _) (.cons (fun _ => rfl) (fun _ => rfl) (fun _ => .cons (.refl _) (.cons (.refl _) (.cons (.refl _) (.cons Wk.nilO (.cons (.refl _) .nil))))) (WkS.refl _))
    · rw [nilR_ne 1 hne, isE hne] at h1
      refine fnT C.spec_l7DrawRoll ?_
      refine runC ?_
      refine r_calln [0] h1 ?_
      refine runC ?_
      refine r_call1p 0 h2 ?_
      refine runC ?_
      refine r_call1p 0 h3 ?_
      refine runC ?_
      refine r_call1p 0 h4 ?_
      refine run ?_
      refine r_apw ?_
      refine run ?_
      refine r_end [0, 6, 3] [] (hs := ?_) (hres := ?_)
      · rw [rowT_append, rowT_1]
        simp (disch := omega) only [go_sem, ↓reduceIte, Nat.reduceEqDiff, Nat.reduceMul, Nat.reduceAdd, Nat.reduceSub, Nat.reduceLT, Nat.reduceGT, Nat.reduceLeDiff, Nat.reduceBEq, Int.reduceLT, Int.reduceLE, Int.reduceNe, Int.reduceEq, Int.reduceToNat, Int.reduceAdd, Int.reduceSub, Int.reduceMul, Int.reduceNeg, Nat.reducePow, Int.reducePow, Nat.reduceSubDiff, decide_true, decide_false, reduceCtorEq, or_self, or_false, false_or, or_true, true_or, if_false, gt_iff_lt, ge_iff_le, ne_eq, not_true_eq_false, not_false_eq_true, and_self, beq_self_eq_true, Bool.false_eq_true]
        exact .cons (fun _ => rfl) (fun h => h) (fun _ => .same _) (.cons (fun _ => rfl) (fun _ => rfl) (fun _ => Wks.tail _ (.cons (.refl _) (.cons (.refl _) (.cons (.refl _) (.cons Wk.nilO (.cons (.refl _) .nil)))))) (WkS.refl _))
      · rw [List.length_append]
        (simp only [go_sem, ↓reduceIte, Nat.reduceEqDiff, Nat.reduceMul, Nat.reduceAdd, Nat.reduceSub, Nat.reduceLT, Nat.reduceGT, Nat.reduceLeDiff, Nat.reduceBEq, Int.reduceLT, Int.reduceLE, Int.reduceNe, Int.reduceEq, Int.reduceToNat, Int.reduceAdd, Int.reduceSub, Int.reduceMul, Int.reduceNeg, Nat.reducePow, Int.reducePow, Nat.reduceSubDiff, decide_true, decide_false, reduceCtorEq, or_self, or_false, false_or, or_true, true_or, if_false, gt_iff_lt, ge_iff_le, ne_eq, not_true_eq_false, not_false_eq_true, and_self, beq_self_eq_true, Bool.false_eq_true]; try (repeat (first | exact True.intro | exact Wk.refl _ | exact Wk.nilR _ _ _ | exact Wk.nil _ _ | exact Wk.dead _ | exact Wk.bT (by assumption) | exact Wk.bF (by assumption) | exact Wk.eqI (by omega) | exact WkS.refl _ | exact Wks.same _ | exact Wks.nil | exact WkS.nil | refine And.intro ?_ ?_ | refine Wk.aggs ?_ | refine Wk.tups ?_ | refine Wks.cons ?_ ?_ | refine WkS.cons (by first | exact fun _ => rfl | exact fun h => absurd h Bool.false_ne_true) ?_ ?_ ?_ | assumption | exact (fun h => h) | exact (fun h => absurd h Bool.false_ne_true) | intro _)))
  refine ⟨⟨of, rels, act, order⟩, c2, by dsimp only; omega, hc2, ?_⟩
  refine fnT C.spec_l7DrawRoll ?_
  refine runC ?_
  refine r_calln [0] h1 ?_
  refine runC ?_
  refine r_call1p 0 h2 ?_
  refine run ?_
  exact r_end [0, 2, 3] []

end Go.TL

/- What is drawn for RollApply: that there is a roll and a command, whatever the bytes. No conditions but those that are written. -/
namespace Go.TL
set_option linter.unusedSimpArgs false
open Go.Proofs Go.RowKit
attribute [local irreducible] wpOpsT wpT EndT Ex.seq Ex.block W

set_option linter.unusedSimpArgs false in
set_option maxHeartbeats 8000000 in
theorem drawApply_ex (l : List Int) (hl : (∀ x ∈ l, 0 ≤ x ∧ x < 256) ∧ l.length ≤ 140737488351232) : ∃ (x : RollV) (y : CmdV), totRoll x.rels x.order ≤ 4000 ∧ y.dig.size ≤ 33 ∧
    CallsT Try.prog [] F.spec_DrawRollApply [.sl false 0 l.length 1 (rowT u8C l)] (.tup [.agg [.v (.int .i64 x.of), nilR 0 x.rels, .v (.int .i64 x.act), .ref 1 [] 0 x.order.length], .agg [.v (.int .i64 y.kind), .v (.int .i64 y.rel), .v (.int .i64 y.node), .v (.int .i64 y.size), .v (.string y.dig)]]) [⟨5, !x.rels.isEmpty, rowT relO x.rels⟩, ⟨1, true, rowT i64C x.order⟩] := by
  have h0 := spec_l1New l hl
  have hc0 : curP l ((0, newS l (newN l)) : Int × Int).1 := ⟨hl.1, hl.2, by dsimp only; omega, by dsimp only; omega⟩
  obtain ⟨x, c1, htx, hc1, h1⟩ := roll_ex l (0, newS l (newN l)) hc0
  obtain ⟨y, c2, hy, hc2, h2⟩ := cmd_ex l c1 hc1
  dsimp only at h1
  have h3 := spec_RollOk 1 1 x.of x.rels x.act x.order ⟨bnd_tot (by omega), by omega⟩
  by_cases hok : rollP x.of x.rels x.act x.order
  · rw [decide_eq_true hok] at h3
    obtain ⟨v, c3, hc3, h4⟩ := once_ex l c2 5 hc2 (by omega)
    cases v with
    | true =>
      refine ⟨x, y, htx, hy, ?_⟩
      refine fnT C.spec_DrawRollApply ?_
      refine runC ?_
      refine r_callp false h0 ?_
      refine runC ?_
      refine r_calln [2] h1 ?_
      refine runC ?_
      refine r_call1p 2 h2 ?_
      refine runC ?_
      refine r_callp true h3 ?_ (ts1 := [.agg [.v (.int .i64 x.of), rowR 5 3 x.rels, .v (.int .i64 x.act), .ref 4 [] 0 x.order.length]]) (hk := by (simp only [go_sem, ↓reduceIte, Nat.reduceEqDiff, Nat.reduceMul, Nat.reduceAdd, Nat.reduceSub, Nat.reduceLT, Nat.reduceGT, Nat.reduceLeDiff, Nat.reduceBEq, Int.reduceLT, Int.reduceLE, Int.reduceNe, Int.reduceEq, Int.reduceToNat, Int.reduceAdd, Int.reduceSub, Int.reduceMul, Int.reduceNeg, Nat.reducePow, Int.reducePow, Nat.reduceSubDiff, decide_true, decide_false, reduceCtorEq, or_self, or_false, false_or, or_true, true_or, if_false, gt_iff_lt, ge_iff_le, ne_eq, not_true_eq_false, not_false_eq_true, and_self, beq_self_eq_true, Bool.false_eq_true]; try (repeat (first | exact True.intro | exact Wk.refl _ | exact Wk.nilR _ _ _ | exact Wk.nil _ _ | exact Wk.dead _ | exact Wk.bT (by assumption) | exact Wk.bF (by assumption) | exact Wk.eqI (by omega) | exact WkS.refl _ | exact Wks.same _ | exact Wks.nil | exact WkS.nil | refine And.intro ?_ ?_ | refine Wk.aggs ?_ | refine Wk.tups ?_ | refine Wks.cons ?_ ?_ | refine WkS.cons (by first | exact fun _ => rfl | exact fun h => absurd h Bool.false_ne_true) ?_ ?_ ?_ | assumption | exact (fun h => h) | exact (fun h => absurd h Bool.false_ne_true) | intro _))))
      refine runC ?_
      refine r_call1p 2 h4 ?_
      refine run ?_
      exact r_end [3, 4] []
    | false =>
      obtain ⟨z, c4, ⟨hz, _⟩, hc4, h5⟩ := next_ex l c3 x hc3 hok
      refine ⟨x, z, htx, by omega, ?_⟩
      refine fnT C.spec_DrawRollApply ?_
      refine runC ?_
      refine r_callp false h0 ?_
      refine runC ?_
      refine r_calln [2] h1 ?_
      refine runC ?_
      refine r_call1p 2 h2 ?_
      refine runC ?_
      refine r_callp true h3 ?_ (ts1 := [.agg [.v (.int .i64 x.of), rowR 5 3 x.rels, .v (.int .i64 x.act), .ref 4 [] 0 x.order.length]]) (hk := by (simp only [go_sem, ↓reduceIte, Nat.reduceEqDiff, Nat.reduceMul, Nat.reduceAdd, Nat.reduceSub, Nat.reduceLT, Nat.reduceGT, Nat.reduceLeDiff, Nat.reduceBEq, Int.reduceLT, Int.reduceLE, Int.reduceNe, Int.reduceEq, Int.reduceToNat, Int.reduceAdd, Int.reduceSub, Int.reduceMul, Int.reduceNeg, Nat.reducePow, Int.reducePow, Nat.reduceSubDiff, decide_true, decide_false, reduceCtorEq, or_self, or_false, false_or, or_true, true_or, if_false, gt_iff_lt, ge_iff_le, ne_eq, not_true_eq_false, not_false_eq_true, and_self, beq_self_eq_true, Bool.false_eq_true]; try (repeat (first | exact True.intro | exact Wk.refl _ | exact Wk.nilR _ _ _ | exact Wk.nil _ _ | exact Wk.dead _ | exact Wk.bT (by assumption) | exact Wk.bF (by assumption) | exact Wk.eqI (by omega) | exact WkS.refl _ | exact Wks.same _ | exact Wks.nil | exact WkS.nil | refine And.intro ?_ ?_ | refine Wk.aggs ?_ | refine Wk.tups ?_ | refine Wks.cons ?_ ?_ | refine WkS.cons (by first | exact fun _ => rfl | exact fun h => absurd h Bool.false_ne_true) ?_ ?_ ?_ | assumption | exact (fun h => h) | exact (fun h => absurd h Bool.false_ne_true) | intro _))))
      refine runC ?_
      refine r_call1p 2 h4 ?_
      refine runC ?_
      refine r_calln [2] (h5 (tagE x.rels 1) 1) ?_ (ts1 := [.ptr 2 [] 0, .agg [.v (.int .i64 x.of), rowR 5 3 x.rels, .v (.int .i64 x.act), .ref 4 [] 0 x.order.length]]) (hk := by (simp only [go_sem, ↓reduceIte, Nat.reduceEqDiff, Nat.reduceMul, Nat.reduceAdd, Nat.reduceSub, Nat.reduceLT, Nat.reduceGT, Nat.reduceLeDiff, Nat.reduceBEq, Int.reduceLT, Int.reduceLE, Int.reduceNe, Int.reduceEq, Int.reduceToNat, Int.reduceAdd, Int.reduceSub, Int.reduceMul, Int.reduceNeg, Nat.reducePow, Int.reducePow, Nat.reduceSubDiff, decide_true, decide_false, reduceCtorEq, or_self, or_false, false_or, or_true, true_or, if_false, gt_iff_lt, ge_iff_le, ne_eq, not_true_eq_false, not_false_eq_true, and_self, beq_self_eq_true, Bool.false_eq_true]; try (repeat (first | exact True.intro | exact Wk.refl _ | exact Wk.nilR _ _ _ | exact Wk.nil _ _ | exact Wk.dead _ | exact Wk.bT (by assumption) | exact Wk.bF (by assumption) | exact Wk.eqI (by omega) | exact WkS.refl _ | exact Wks.same _ | exact Wks.nil | exact WkS.nil | refine And.intro ?_ ?_ | refine Wk.aggs ?_ | refine Wk.tups ?_ | refine Wks.cons ?_ ?_ | refine WkS.cons (by first | exact fun _ => rfl | exact fun h => absurd h Bool.false_ne_true) ?_ ?_ ?_ | assumption | exact (fun h => h) | exact (fun h => absurd h Bool.false_ne_true) | intro _))))
      refine run ?_
      exact r_end [3, 4] []
  · rw [decide_eq_false hok] at h3
    refine ⟨x, y, htx, hy, ?_⟩
    refine fnT C.spec_DrawRollApply ?_
    refine runC ?_
    refine r_callp false h0 ?_
    refine runC ?_
    refine r_calln [2] h1 ?_
    refine runC ?_
    refine r_call1p 2 h2 ?_
    refine runC ?_
    refine r_callp true h3 ?_ (ts1 := [.agg [.v (.int .i64 x.of), rowR 5 3 x.rels, .v (.int .i64 x.act), .ref 4 [] 0 x.order.length]]) (hk := by (simp only [go_sem, ↓reduceIte, Nat.reduceEqDiff, Nat.reduceMul, Nat.reduceAdd, Nat.reduceSub, Nat.reduceLT, Nat.reduceGT, Nat.reduceLeDiff, Nat.reduceBEq, Int.reduceLT, Int.reduceLE, Int.reduceNe, Int.reduceEq, Int.reduceToNat, Int.reduceAdd, Int.reduceSub, Int.reduceMul, Int.reduceNeg, Nat.reducePow, Int.reducePow, Nat.reduceSubDiff, decide_true, decide_false, reduceCtorEq, or_self, or_false, false_or, or_true, true_or, if_false, gt_iff_lt, ge_iff_le, ne_eq, not_true_eq_false, not_false_eq_true, and_self, beq_self_eq_true, Bool.false_eq_true]; try (repeat (first | exact True.intro | exact Wk.refl _ | exact Wk.nilR _ _ _ | exact Wk.nil _ _ | exact Wk.dead _ | exact Wk.bT (by assumption) | exact Wk.bF (by assumption) | exact Wk.eqI (by omega) | exact WkS.refl _ | exact Wks.same _ | exact Wks.nil | exact WkS.nil | refine And.intro ?_ ?_ | refine Wk.aggs ?_ | refine Wk.tups ?_ | refine Wks.cons ?_ ?_ | refine WkS.cons (by first | exact fun _ => rfl | exact fun h => absurd h Bool.false_ne_true) ?_ ?_ ?_ | assumption | exact (fun h => h) | exact (fun h => absurd h Bool.false_ne_true) | intro _))))
    refine run ?_
    exact r_end [3, 4] []

end Go.TL
