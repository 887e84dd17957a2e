/- The law of what a roll keeps, on trees. No conditions but those that are written. -/
import Derived.Test.YthkahdjgkcccgaaJG11G12
import Derived.Test.YthkahdjgkcccgaaJM6M9
namespace Go.TL
set_option linter.unusedSimpArgs false
open Go.Proofs Go.RowKit
attribute [local irreducible] wpOpsT wpT EndT Ex.seq Ex.block W

set_option maxHeartbeats 4000000 in
theorem laws_big (k : Nat) (l : List Int) : CallsT Try.prog [] F.laws_big [.sl false k l.length 1 (rowT u8C l)] (.v (.bool (decide (1048576 < (l.length : Int))))) [] := by
  refine fnT C.laws_big ?_
  refine run ?_
  exact r_end [] []
instance (k : Nat) (l : List Int) : Con Try.prog F.laws_big [.sl false k l.length 1 (rowT u8C l)] True (.v (.bool (decide (1048576 < (l.length : Int))))) [] := ⟨fun _ => laws_big k l⟩

set_option maxHeartbeats 4000000 in
theorem laws_sameInts (k k2 : Nat) (l : List Int) (hpre : l.length ≤ 140737488351232) : CallsT Try.prog [] F.laws_sameInts [.sl false k l.length 1 (rowT i64C l), .sl false k2 l.length 1 (rowT i64C l)] (.v (.bool true)) [] := by
  refine fnT C.laws_sameInts ?_
  refine run ?_
  refine r_for l.length (fun i => [(0, .sl false k l.length 1 (rowT i64C l)), (1, .sl false k2 l.length 1 (rowT i64C l)), (5, .v (.int .i64 i))]) (fun _ => []) (fun _ => True) [] [] trivial Gc.of (fun i hi _ => ?_) (fun _ => ?_)
  · refine run ?_
    exact ⟨[], [], Gc.of, trivial⟩
  · refine run ?_
    exact r_end [] []
instance (k k2 : Nat) (l : List Int) : Con Try.prog F.laws_sameInts [.sl false k l.length 1 (rowT i64C l), .sl false k2 l.length 1 (rowT i64C l)] (l.length ≤ 140737488351232) (.v (.bool true)) [] := ⟨fun h => laws_sameInts k k2 l h⟩

@[go_sem] theorem off_5 (x a b : Nat) : x * 5 + a + b = x * 5 + (a + b) := Nat.add_assoc ..
theorem sameInts0 : CallsT Try.prog [] F.laws_sameInts [.sl false 1 0 1 [], .sl false 1 0 1 []] (.v (.bool true)) [] := laws_sameInts 1 1 [] (by simp)
theorem applyR_code (of : Int) (rels : List RelV) (act : Int) (order : List Int) (k r n z : Int) (d : ByteArray) : ¬ (applyR of rels act order k r n z d).2 = 1 := by
  unfold applyR
  repeat' (first | (dsimp only; omega) | split)
theorem relF_keep {of : Int} {rels : List RelV} {act : Int} {order : List Int} (h : rollP of rels act order) {i : Nat} (hi : i < rels.length) {n : Int} (hn : (nth rels (i : Nat)).no = n) : relF of rels act order n = nth rels (i : Nat) ∧ relOk of rels act order n := by
  have e : findR rels n = i := findR_at hi hn fun j hj hh => by
    have := nos_lt' h.2.2.1 hj hi
    omega
  have h0 : ¬ (findR rels n < 0 ∨ ¬ rollP of rels act order) := fun hh => by
    rcases hh with hh | hh
    · omega
    · exact hh h
  exact ⟨by rw [relF, if_neg h0, e], h0⟩

theorem eqF {a b : Int} (h : ¬ a = b) : (a = b) = False := eq_false h
attribute [local go_sem] eqF
set_option linter.unusedSimpArgs false in
set_option maxHeartbeats 16000000 in
set_option maxHeartbeats 4000000 in
theorem laws_FnRollKeeps (l : List Int) (hpre : (∀ x ∈ l, 0 ≤ x ∧ x < 256) ∧ l.length ≤ 140737488351232) : CallsT Try.prog [] F.laws_FnRollKeeps [.sl false 0 l.length 1 (rowT u8C l)] (.v (.bool true)) [] := by
  refine fnT C.laws_FnRollKeeps ?_
  have hl := hpre
  refine run ?_
  refine r_ifd (fun h => ?_) (fun h => ?_)
  · refine run ?_
    exact r_end [] []
  obtain ⟨x, y, htx, hy, hd⟩ := drawApply_ex l hl
  have hbx := bnd_tot (rels := x.rels) (order := x.order) (by omega)
  have hsp := spec_RollApply 1 1 x.of x.rels x.act x.order y.kind y.rel y.node y.size y.dig hbx (by omega)
  have him := impl_RollApply 1 1 x.of x.rels x.act x.order y.kind y.rel y.node y.size y.dig hbx (by omega)
  by_cases hok : rollP x.of x.rels x.act x.order ∧ cmdP y.kind y.rel y.node y.size y.dig
  · rw [show applyP x.of x.rels x.act x.order y.kind y.rel y.node y.size y.dig = applyR x.of x.rels x.act x.order y.kind y.rel y.node y.size y.dig from if_pos hok] at hsp him
    obtain ⟨hq, hk0, hk1, hk⟩ := roll_apply hok.1 hok.2
    have hcode := applyR_code x.of x.rels x.act x.order y.kind y.rel y.node y.size y.dig
    generalize applyR x.of x.rels x.act x.order y.kind y.rel y.node y.size y.dig = q at *
    have htq := tot_ok hq
    have hbq := bnd_tot (rels := q.1.rels) (order := q.1.order) (by omega)
    dsimp only [rollT, rollS] at hsp him
    refine runC ?_
    refine r_callp false hd ?_
    refine runC ?_
    refine r_callp true him ?_ (ts1 := [.agg [.v (.int .i64 x.of), rowR 5 0 x.rels, .v (.int .i64 x.act), .ref 1 [] 0 x.order.length], .agg [.v (.int .i64 y.kind), .v (.int .i64 y.rel), .v (.int .i64 y.node), .v (.int .i64 y.size), .v (.string y.dig)]]) (hk := by (simp only [go_sem, ↓reduceIte, Nat.reduceEqDiff, Nat.reduceMul, Nat.reduceAdd, Nat.reduceSub, Nat.reduceLT, Nat.reduceGT, Nat.reduceLeDiff, Nat.reduceBEq, Int.reduceLT, Int.reduceLE, Int.reduceNe, Int.reduceEq, Int.reduceToNat, Int.reduceAdd, Int.reduceSub, Int.reduceMul, Int.reduceNeg, Nat.reducePow, Int.reducePow, Nat.reduceSubDiff, decide_true, decide_false, reduceCtorEq, or_self, or_false, false_or, or_true, true_or, if_false, gt_iff_lt, ge_iff_le, ne_eq, not_true_eq_false, not_false_eq_true, and_self, beq_self_eq_true, Bool.false_eq_true]; try (repeat (first | exact True.intro | exact Wk.refl _ | exact Wk.nilR _ _ _ | exact Wk.nil _ _ | exact Wk.dead _ | exact Wk.bT (by assumption) | exact Wk.bF (by assumption) | exact Wk.eqI (by omega) | exact WkS.refl _ | exact Wks.same _ | exact Wks.nil | exact WkS.nil | refine And.intro ?_ ?_ | refine Wk.aggs ?_ | refine Wk.tups ?_ | refine Wks.cons ?_ ?_ | refine WkS.cons (by first | exact fun _ => rfl | exact fun h => absurd h Bool.false_ne_true) ?_ ?_ ?_ | assumption | exact (fun h => h) | exact (fun h => absurd h Bool.false_ne_true) | intro _))))
    refine runC ?_
    refine r_callp true hsp ?_ (ts1 := [.agg [.v (.int .i64 x.of), rowR 5 0 x.rels, .v (.int .i64 x.act), .ref 1 [] 0 x.order.length], .agg [.v (.int .i64 y.kind), .v (.int .i64 y.rel), .v (.int .i64 y.node), .v (.int .i64 y.size), .v (.string y.dig)]]) (hk := by (simp only [go_sem, ↓reduceIte, Nat.reduceEqDiff, Nat.reduceMul, Nat.reduceAdd, Nat.reduceSub, Nat.reduceLT, Nat.reduceGT, Nat.reduceLeDiff, Nat.reduceBEq, Int.reduceLT, Int.reduceLE, Int.reduceNe, Int.reduceEq, Int.reduceToNat, Int.reduceAdd, Int.reduceSub, Int.reduceMul, Int.reduceNeg, Nat.reducePow, Int.reducePow, Nat.reduceSubDiff, decide_true, decide_false, reduceCtorEq, or_self, or_false, false_or, or_true, true_or, if_false, gt_iff_lt, ge_iff_le, ne_eq, not_true_eq_false, not_false_eq_true, and_self, beq_self_eq_true, Bool.false_eq_true]; try (repeat (first | exact True.intro | exact Wk.refl _ | exact Wk.nilR _ _ _ | exact Wk.nil _ _ | exact Wk.dead _ | exact Wk.bT (by assumption) | exact Wk.bF (by assumption) | exact Wk.eqI (by omega) | exact WkS.refl _ | exact Wks.same _ | exact Wks.nil | exact WkS.nil | refine And.intro ?_ ?_ | refine Wk.aggs ?_ | refine Wk.tups ?_ | refine Wks.cons ?_ ?_ | refine WkS.cons (by first | exact fun _ => rfl | exact fun h => absurd h Bool.false_ne_true) ?_ ?_ ?_ | assumption | exact (fun h => h) | exact (fun h => absurd h Bool.false_ne_true) | intro _))))
    refine run ?_
    have hlx := rels_len (rels := x.rels) (order := x.order) (by omega)
    refine r_for x.rels.length (fun i => [(3, .ptr 2 [] 0), (4, .ptr 3 [] 0), (5, .ptr 6 [] 0), (9, .v (.int .i64 i))]) (fun _ => [⟨5, !x.rels.isEmpty, rowT relO x.rels⟩, ⟨1, true, rowT i64C x.order⟩, ⟨0, true, [.v (.int .i64 x.of), nilR 0 x.rels, .v (.int .i64 x.act), .ref 1 [] 0 x.order.length]⟩, ⟨0, true, [.v (.int .i64 y.kind), .v (.int .i64 y.rel), .v (.int .i64 y.node), .v (.int .i64 y.size), .v (.string y.dig)]⟩, ⟨5, !q.1.rels.isEmpty, rowT relO q.1.rels⟩, ⟨1, !q.1.order.isEmpty, rowT i64C q.1.order⟩, ⟨0, true, [.v (.int .i64 q.1.of), rowR 5 4 q.1.rels, .v (.int .i64 q.1.act), rowR 1 5 q.1.order]⟩]) (fun _ => True) [0, 1, 2, 3, 4, 5, 6] [] trivial Gc.of (fun i hi _ => ?_) (fun _ => ?_)
    · have hne : x.rels ≠ [] := by intro h; rw [h] at hi; simp at hi
      obtain ⟨hkn, hkz, hkd, hkr, hkl⟩ := hk i hi
      have hf := relF_keep hq (i := i) (by omega) hkn
      have hlr := ready_len (rels := x.rels) (order := x.order) (by omega) (x := (i : Int)) (by omega) (by omega)
      have hlq := ready_len (rels := q.1.rels) (order := q.1.order) (by omega) (x := (i : Int)) (by omega) (by omega)
      rw [nilR_ne 0 hne, isE hne, row_split (enc := relO) x.rels i hi]
      have ht : (x.rels.take i).length = i := by rw [List.length_take]; omega
      dsimp only [relO, List.cons_append, List.nil_append]
      by_cases hr : (nth x.rels (i : Nat)).ready.length = 0
      · have hrn := List.eq_nil_of_length_eq_zero hr
        rw [hrn, show ownC ([] : List Int).length 1 (rowT i64C []) = .sl false 0 0 1 [] from ownC_nil _ _]
        refine runC ?_
        refine r_callc ?_ (hp := dr_still)
        refine runC ?_
        refine r_do ?_ (hp := dr_chainc)
        refine r_do0 ?_ (hp := dr_chainc)
        rw [hf.1, decide_eq_true hf.2, hkz, hkd]
        by_cases hno : (nth x.rels (i : Nat)).no = y.rel
        · rw [hno]
          refine run ?_
          exact ⟨[0, 1, 2, 3, 4, 5, 6], [], Gc.of, trivial⟩
        · obtain ⟨hks, hkrr⟩ := hkr hno
          rw [hks, hkrr, hrn]
          refine runC ?_
          refine r_callp true sameInts0 ?_
          refine run ?_
          exact ⟨[0, 1, 2, 3, 4, 5, 6], [], Gc.of, trivial⟩
      rw [ownC_pos _ _ hr]
      refine runC ?_
      refine r_callc ?_ (hp := dr_still)
      refine runC ?_
      refine r_do ?_ (hp := dr_chainc)
      refine r_do0 ?_ (hp := dr_chainc)
      rw [hf.1, decide_eq_true hf.2, hkz, hkd]
      by_cases hno : (nth x.rels (i : Nat)).no = y.rel
      · rw [hno]
        refine run ?_
        exact ⟨[0, 1, 2, 3, 4, 5, 6], [], Gc.of, trivial⟩
      · obtain ⟨hks, hkrr⟩ := hkr hno
        rw [hks, hkrr]
        refine runC ?_
        refine r_callp true (laws_sameInts 1 1 (nth x.rels (i : Nat)).ready (by omega)) ?_ (ha := by ((simp (disch := omega) only [go_sem, ↓reduceIte, Nat.reduceEqDiff, Nat.reduceMul, Nat.reduceAdd, Nat.reduceSub, Nat.reduceLT, Nat.reduceGT, Nat.reduceLeDiff, Nat.reduceBEq, Int.reduceLT, Int.reduceLE, Int.reduceNe, Int.reduceEq, Int.reduceToNat, Int.reduceAdd, Int.reduceSub, Int.reduceMul, Int.reduceNeg, Nat.reducePow, Int.reducePow, Nat.reduceSubDiff, decide_true, decide_false, reduceCtorEq, or_self, or_false, false_or, or_true, true_or, if_false, gt_iff_lt, ge_iff_le, ne_eq, not_true_eq_false, not_false_eq_true, and_self, beq_self_eq_true, Bool.false_eq_true]) <;> with_reducible rfl))
        refine run ?_
        exact ⟨[0, 1, 2, 3, 4, 5, 6], [], Gc.of, trivial⟩
    · refine run ?_
      rw [decide_eq_true (show (q.1.rels.length : Int) ≤ (x.rels.length : Int) + 1 ∧ rollP q.1.of q.1.rels q.1.act q.1.order from ⟨by omega, hq⟩)]
      exact r_end [] []
  · rw [show applyP x.of x.rels x.act x.order y.kind y.rel y.node y.size y.dig = (⟨0, [], 0, []⟩, 1) from if_neg hok] at hsp him
    dsimp only [rollT, rollS] at hsp him
    refine runC ?_
    refine r_callp false hd ?_
    refine runC ?_
    refine r_callp true him ?_ (ts1 := [.agg [.v (.int .i64 x.of), rowR 5 0 x.rels, .v (.int .i64 x.act), .ref 1 [] 0 x.order.length], .agg [.v (.int .i64 y.kind), .v (.int .i64 y.rel), .v (.int .i64 y.node), .v (.int .i64 y.size), .v (.string y.dig)]]) (hk := by (simp only [go_sem, ↓reduceIte, Nat.reduceEqDiff, Nat.reduceMul, Nat.reduceAdd, Nat.reduceSub, Nat.reduceLT, Nat.reduceGT, Nat.reduceLeDiff, Nat.reduceBEq, Int.reduceLT, Int.reduceLE, Int.reduceNe, Int.reduceEq, Int.reduceToNat, Int.reduceAdd, Int.reduceSub, Int.reduceMul, Int.reduceNeg, Nat.reducePow, Int.reducePow, Nat.reduceSubDiff, decide_true, decide_false, reduceCtorEq, or_self, or_false, false_or, or_true, true_or, if_false, gt_iff_lt, ge_iff_le, ne_eq, not_true_eq_false, not_false_eq_true, and_self, beq_self_eq_true, Bool.false_eq_true]; try (repeat (first | exact True.intro | exact Wk.refl _ | exact Wk.nilR _ _ _ | exact Wk.nil _ _ | exact Wk.dead _ | exact Wk.bT (by assumption) | exact Wk.bF (by assumption) | exact Wk.eqI (by omega) | exact WkS.refl _ | exact Wks.same _ | exact Wks.nil | exact WkS.nil | refine And.intro ?_ ?_ | refine Wk.aggs ?_ | refine Wk.tups ?_ | refine Wks.cons ?_ ?_ | refine WkS.cons (by first | exact fun _ => rfl | exact fun h => absurd h Bool.false_ne_true) ?_ ?_ ?_ | assumption | exact (fun h => h) | exact (fun h => absurd h Bool.false_ne_true) | intro _))))
    refine runC ?_
    refine r_callp true hsp ?_ (ts1 := [.agg [.v (.int .i64 x.of), rowR 5 0 x.rels, .v (.int .i64 x.act), .ref 1 [] 0 x.order.length], .agg [.v (.int .i64 y.kind), .v (.int .i64 y.rel), .v (.int .i64 y.node), .v (.int .i64 y.size), .v (.string y.dig)]]) (hk := by (simp only [go_sem, ↓reduceIte, Nat.reduceEqDiff, Nat.reduceMul, Nat.reduceAdd, Nat.reduceSub, Nat.reduceLT, Nat.reduceGT, Nat.reduceLeDiff, Nat.reduceBEq, Int.reduceLT, Int.reduceLE, Int.reduceNe, Int.reduceEq, Int.reduceToNat, Int.reduceAdd, Int.reduceSub, Int.reduceMul, Int.reduceNeg, Nat.reducePow, Int.reducePow, Nat.reduceSubDiff, decide_true, decide_false, reduceCtorEq, or_self, or_false, false_or, or_true, true_or, if_false, gt_iff_lt, ge_iff_le, ne_eq, not_true_eq_false, not_false_eq_true, and_self, beq_self_eq_true, Bool.false_eq_true]; try (repeat (first | exact True.intro | exact Wk.refl _ | exact Wk.nilR _ _ _ | exact Wk.nil _ _ | exact Wk.dead _ | exact Wk.bT (by assumption) | exact Wk.bF (by assumption) | exact Wk.eqI (by omega) | exact WkS.refl _ | exact Wks.same _ | exact Wks.nil | exact WkS.nil | refine And.intro ?_ ?_ | refine Wk.aggs ?_ | refine Wk.tups ?_ | refine Wks.cons ?_ ?_ | refine WkS.cons (by first | exact fun _ => rfl | exact fun h => absurd h Bool.false_ne_true) ?_ ?_ ?_ | assumption | exact (fun h => h) | exact (fun h => absurd h Bool.false_ne_true) | intro _))))
    refine run ?_
    exact r_end [] []
instance (l : List Int) : Con Try.prog F.laws_FnRollKeeps [.sl false 0 l.length 1 (rowT u8C l)] ((∀ x ∈ l, 0 ≤ x ∧ x < 256) ∧ l.length ≤ 140737488351232) (.v (.bool true)) [] := ⟨fun h => laws_FnRollKeeps l h⟩

end Go.TL
