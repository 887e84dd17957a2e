/- Texts joined. No conditions but those that are written. -/
import Derived.Test.YthkahdjgkcccgaaJM18M19
import Derived.Test.YthkahdjgkcccgaaJG11G12
import Derived.Test.YthkahdjgkcccgaaJM6M9
import Derived.Test.YthkahdjgkcccgaaG13
/- The law of runs of commands, in plain words: a run is its halves one behind the other. No conditions. -/
namespace Go.TL
set_option linter.unusedSimpArgs false
open Go.Proofs Go.RowKit
attribute [local irreducible] wpOpsT wpT EndT Ex.seq Ex.block W

theorem run_acc : ∀ (l : List CmdV) (x : RollV) (c : List Int), l.foldl runStep (x, c) = ((l.foldl runStep (x, [])).1, c ++ (l.foldl runStep (x, [])).2)
  | [], x, c => by simp
  | y :: l, x, c => by
    rw [List.foldl_cons, List.foldl_cons]
    have e : ∀ c : List Int, runStep (x, c) y = ((runStep (x, []) y).1, c ++ (runStep (x, []) y).2) := fun c => by simp [runStep]
    rw [e c, run_acc l _ (c ++ _), e [], run_acc l _ ([] ++ _)]
    simp
theorem runSt_app (x : RollV) (a b : List CmdV) : runSt x (a ++ b) = ((runSt (runSt x a).1 b).1, (runSt x a).2 ++ (runSt (runSt x a).1 b).2) := by
  unfold runSt
  rw [List.foldl_append]
  conv => lhs; rw [show a.foldl runStep (x, []) = ((a.foldl runStep (x, [])).1, (a.foldl runStep (x, [])).2) from rfl]
  rw [run_acc]
/-- Two halves of a run. -/
theorem runV_cut {x : RollV} {l : List CmdV} (h : rollP x.of x.rels x.act x.order ∧ (l.length : Int) ≤ 80) {k : Nat} (hk : k ≤ l.length) :
    (runV x (l.take k)).2.length = k ∧ (runV x (l.take k)).2.length + (runV (runV x (l.take k)).1 (l.drop k)).2.length = (runV x l).2.length ∧ (runV (runV x (l.take k)).1 (l.drop k)).1 = (runV x l).1 := by
  have h1 : runV x (l.take k) = runSt x (l.take k) := if_pos ⟨h.1, by rw [List.length_take]; omega⟩
  have hx : rollP (runSt x (l.take k)).1.of (runSt x (l.take k)).1.rels (runSt x (l.take k)).1.act (runSt x (l.take k)).1.order := runSt_x h.1
  have h2 : runV (runSt x (l.take k)).1 (l.drop k) = runSt (runSt x (l.take k)).1 (l.drop k) := if_pos ⟨hx, by rw [List.length_drop]; omega⟩
  have h3 : runV x l = runSt x l := if_pos h
  have h4 := runSt_app x (l.take k) (l.drop k)
  rw [List.take_append_drop] at h4
  rw [h1, h2, h3, h4]
  have l1 := runSt_len x (l.take k)
  rw [List.length_take] at l1
  refine ⟨by omega, ?_, rfl⟩
  dsimp only
  rw [List.length_append]

end Go.TL

/- The law of what a roll keeps, on trees. No conditions but those that are written. -/
namespace Go.TL
set_option linter.unusedSimpArgs false
open Go.Proofs Go.RowKit
attribute [local irreducible] wpOpsT wpT EndT Ex.seq Ex.block W

set_option maxHeartbeats 4000000 in
theorem laws_big (k : Nat) (l : List Int) : CallsT Try.prog [] F.laws_big [.sl false k l.length 1 (rowT u8C l)] (.v (.bool (decide (1048576 < (l.length : Int))))) [] := by
  refine fnT C.laws_big ?_
  refine run ?_
  exact r_end [] []
instance (k : Nat) (l : List Int) : Con Try.prog F.laws_big [.sl false k l.length 1 (rowT u8C l)] True (.v (.bool (decide (1048576 < (l.length : Int))))) [] := ⟨fun _ => laws_big k l⟩

set_option maxHeartbeats 4000000 in
theorem laws_sameInts (k k2 : Nat) (l : List Int) (hpre : l.length ≤ 140737488351232) : CallsT Try.prog [] F.laws_sameInts [.sl false k l.length 1 (rowT i64C l), .sl false k2 l.length 1 (rowT i64C l)] (.v (.bool true)) [] := by
  refine fnT C.laws_sameInts ?_
  refine run ?_
  refine r_for l.length (fun i => [(0, .sl false k l.length 1 (rowT i64C l)), (1, .sl false k2 l.length 1 (rowT i64C l)), (5, .v (.int .i64 i))]) (fun _ => []) (fun _ => True) [] [] trivial Gc.of (fun i hi _ => ?_) (fun _ => ?_)
  · refine run ?_
    exact ⟨[], [], Gc.of, trivial⟩
  · refine run ?_
    exact r_end [] []
instance (k k2 : Nat) (l : List Int) : Con Try.prog F.laws_sameInts [.sl false k l.length 1 (rowT i64C l), .sl false k2 l.length 1 (rowT i64C l)] (l.length ≤ 140737488351232) (.v (.bool true)) [] := ⟨fun h => laws_sameInts k k2 l h⟩

@[go_sem] theorem off_5 (x a b : Nat) : x * 5 + a + b = x * 5 + (a + b) := Nat.add_assoc ..
theorem sameInts0 : CallsT Try.prog [] F.laws_sameInts [.sl false 1 0 1 [], .sl false 1 0 1 []] (.v (.bool true)) [] := laws_sameInts 1 1 [] (by simp)
theorem applyR_code (of : Int) (rels : List RelV) (act : Int) (order : List Int) (k r n z : Int) (d : ByteArray) : ¬ (applyR of rels act order k r n z d).2 = 1 := by
  unfold applyR
  repeat' (first | (dsimp only; omega) | split)
theorem relF_keep {of : Int} {rels : List RelV} {act : Int} {order : List Int} (h : rollP of rels act order) {i : Nat} (hi : i < rels.length) {n : Int} (hn : (nth rels (i : Nat)).no = n) : relF of rels act order n = nth rels (i : Nat) ∧ relOk of rels act order n := by
  have e : findR rels n = i := findR_at hi hn fun j hj hh => by
    have := nos_lt' h.2.2.1 hj hi
    omega
  have h0 : ¬ (findR rels n < 0 ∨ ¬ rollP of rels act order) := fun hh => by
    rcases hh with hh | hh
    · omega
    · exact hh h
  exact ⟨by rw [relF, if_neg h0, e], h0⟩

theorem eqF {a b : Int} (h : ¬ a = b) : (a = b) = False := eq_false h
attribute [local go_sem] eqF
set_option linter.unusedSimpArgs false in
set_option maxHeartbeats 16000000 in
set_option maxHeartbeats 4000000 in
theorem laws_FnRollKeeps (l : List Int) (hpre : (∀ x ∈ l, 0 ≤ x ∧ x < 256) ∧ l.length ≤ 140737488351232) : CallsT Try.prog [] F.laws_FnRollKeeps [.sl false 0 l.length 1 (rowT u8C l)] (.v (.bool true)) [] := by
  refine fnT C.laws_FnRollKeeps ?_
  have hl := hpre
  refine run ?_
  refine r_ifd (fun h => ?_) (fun h => ?_)
  · refine run ?_
    exact r_end [] []
  obtain ⟨x, y, htx, hy, hd⟩ := drawApply_ex l hl
  have hbx := bnd_tot (rels := x.rels) (order := x.order) (by omega)
  have hsp := spec_RollApply 1 1 x.of x.rels x.act x.order y.kind y.rel y.node y.size y.dig hbx (by omega)
  have him := impl_RollApply 1 1 x.of x.rels x.act x.order y.kind y.rel y.node y.size y.dig hbx (by omega)
  by_cases hok : rollP x.of x.rels x.act x.order ∧ cmdP y.kind y.rel y.node y.size y.dig
  · rw [show applyP x.of x.rels x.act x.order y.kind y.rel y.node y.size y.dig = applyR x.of x.rels x.act x.order y.kind y.rel y.node y.size y.dig from if_pos hok] at hsp him
    obtain ⟨hq, hk0, hk1, hk⟩ := roll_apply hok.1 hok.2
    have hcode := applyR_code x.of x.rels x.act x.order y.kind y.rel y.node y.size y.dig
    generalize applyR x.of x.rels x.act x.order y.kind y.rel y.node y.size y.dig = q at *
    have htq := tot_ok hq
    have hbq := bnd_tot (rels := q.1.rels) (order := q.1.order) (by omega)
    dsimp only [rollT, rollS] at hsp him
    refine runC ?_
    refine r_callp false hd ?_
    refine runC ?_
    refine r_callp true him ?_ (ts1 := [.agg [.v (.int .i64 x.of), rowR 5 0 x.rels, .v (.int .i64 x.act), .ref 1 [] 0 x.order.length], .agg [.v (.int .i64 y.kind), .v (.int .i64 y.rel), .v (.int .i64 y.node), .v (.int .i64 y.size), .v (.string y.dig)]]) (hk := by (simp only [go_sem, ↓reduceIte, Nat.reduceEqDiff, Nat.reduceMul, Nat.reduceAdd, Nat.reduceSub, Nat.reduceLT, Nat.reduceGT, Nat.reduceLeDiff, Nat.reduceBEq, Int.reduceLT, Int.reduceLE, Int.reduceNe, Int.reduceEq, Int.reduceToNat, Int.reduceAdd, Int.reduceSub, Int.reduceMul, Int.reduceNeg, Nat.reducePow, Int.reducePow, Nat.reduceSubDiff, decide_true, decide_false, reduceCtorEq, or_self, or_false, false_or, or_true, true_or, if_false, gt_iff_lt, ge_iff_le, ne_eq, not_true_eq_false, not_false_eq_true, and_self, beq_self_eq_true, Bool.false_eq_true]; try (repeat (first | exact True.intro | exact Wk.refl _ | exact Wk.nilR _ _ _ | exact Wk.nil _ _ | exact Wk.dead _ | exact Wk.bT (by assumption) | exact Wk.bF (by assumption) | exact Wk.eqI (by omega) | exact WkS.refl _ | exact Wks.same _ | exact Wks.nil | exact WkS.nil | refine And.intro ?_ ?_ | refine Wk.aggs ?_ | refine Wk.tups ?_ | refine Wks.cons ?_ ?_ | refine WkS.cons (by first | exact fun _ => rfl | exact fun h => absurd h Bool.false_ne_true) ?_ ?_ ?_ | assumption | exact (fun h => h) | exact (fun h => absurd h Bool.false_ne_true) | intro _))))
    refine runC ?_
    refine r_callp true hsp ?_ (ts1 := [.agg [.v (.int .i64 x.of), rowR 5 0 x.rels, .v (.int .i64 x.act), .ref 1 [] 0 x.order.length], .agg [.v (.int .i64 y.kind), .v (.int .i64 y.rel), .v (.int .i64 y.node), .v (.int .i64 y.size), .v (.string y.dig)]]) (hk := by (simp only [go_sem, ↓reduceIte, Nat.reduceEqDiff, Nat.reduceMul, Nat.reduceAdd, Nat.reduceSub, Nat.reduceLT, Nat.reduceGT, Nat.reduceLeDiff, Nat.reduceBEq, Int.reduceLT, Int.reduceLE, Int.reduceNe, Int.reduceEq, Int.reduceToNat, Int.reduceAdd, Int.reduceSub, Int.reduceMul, Int.reduceNeg, Nat.reducePow, Int.reducePow, Nat.reduceSubDiff, decide_true, decide_false, reduceCtorEq, or_self, or_false, false_or, or_true, true_or, if_false, gt_iff_lt, ge_iff_le, ne_eq, not_true_eq_false, not_false_eq_true, and_self, beq_self_eq_true, Bool.false_eq_true]; try (repeat (first | exact True.intro | exact Wk.refl _ | exact Wk.nilR _ _ _ | exact Wk.nil _ _ | exact Wk.dead _ | exact Wk.bT (by assumption) | exact Wk.bF (by assumption) | exact Wk.eqI (by omega) | exact WkS.refl _ | exact Wks.same _ | exact Wks.nil | exact WkS.nil | refine And.intro ?_ ?_ | refine Wk.aggs ?_ | refine Wk.tups ?_ | refine Wks.cons ?_ ?_ | refine WkS.cons (by first | exact fun _ => rfl | exact fun h => absurd h Bool.false_ne_true) ?_ ?_ ?_ | assumption | exact (fun h => h) | exact (fun h => absurd h Bool.false_ne_true) | intro _))))
    refine run ?_
    have hlx := rels_len (rels := x.rels) (order := x.order) (by omega)
    refine r_for x.rels.length (fun i => [(3, .ptr 2 [] 0), (4, .ptr 3 [] 0), (5, .ptr 6 [] 0), (9, .v (.int .i64 i))]) (fun _ => [⟨5, !x.rels.isEmpty, rowT relO x.rels⟩, ⟨1, true, rowT i64C x.order⟩, ⟨0, true, [.v (.int .i64 x.of), nilR 0 x.rels, .v (.int .i64 x.act), .ref 1 [] 0 x.order.length]⟩, ⟨0, true, [.v (.int .i64 y.kind), .v (.int .i64 y.rel), .v (.int .i64 y.node), .v (.int .i64 y.size), .v (.string y.dig)]⟩, ⟨5, !q.1.rels.isEmpty, rowT relO q.1.rels⟩, ⟨1, !q.1.order.isEmpty, rowT i64C q.1.order⟩, ⟨0, true, [.v (.int .i64 q.1.of), rowR 5 4 q.1.rels, .v (.int .i64 q.1.act), rowR 1 5 q.1.order]⟩]) (fun _ => True) [0, 1, 2, 3, 4, 5, 6] [] trivial Gc.of (fun i hi _ => ?_) (fun _ => ?_)
    · have hne : x.rels ≠ [] := by intro h; rw [h] at hi; simp at hi
      obtain ⟨hkn, hkz, hkd, hkr, hkl⟩ := hk i hi
      have hf := relF_keep hq (i := i) (by omega) hkn
      have hlr := ready_len (rels := x.rels) (order := x.order) (by omega) (x := (i : Int)) (by omega) (by omega)
      have hlq := ready_len (rels := q.1.rels) (order := q.1.order) (by omega) (x := (i : Int)) (by omega) (by omega)
      rw [nilR_ne 0 hne, isE hne, row_split (enc := relO) x.rels i hi]
      have ht : (x.rels.take i).length = i := by rw [List.length_take]; omega
      dsimp only [relO, List.cons_append, List.nil_append]
      by_cases hr : (nth x.rels (i : Nat)).ready.length = 0
      · have hrn := List.eq_nil_of_length_eq_zero hr
        rw [hrn, show ownC ([] : List Int).length 1 (rowT i64C []) = .sl false 0 0 1 [] from ownC_nil _ _]
        refine runC ?_
        refine r_callc ?_ (hp := dr_still)
        refine runC ?_
        refine r_do ?_ (hp := dr_chainc)
        refine r_do0 ?_ (hp := dr_chainc)
        rw [hf.1, decide_eq_true hf.2, hkz, hkd]
        by_cases hno : (nth x.rels (i : Nat)).no = y.rel
        · rw [hno]
          refine run ?_
          exact ⟨[0, 1, 2, 3, 4, 5, 6], [], Gc.of, trivial⟩
        · obtain ⟨hks, hkrr⟩ := hkr hno
          rw [hks, hkrr, hrn]
          refine runC ?_
          refine r_callp true sameInts0 ?_
          refine run ?_
          exact ⟨[0, 1, 2, 3, 4, 5, 6], [], Gc.of, trivial⟩
      rw [ownC_pos _ _ hr]
      refine runC ?_
      refine r_callc ?_ (hp := dr_still)
      refine runC ?_
      refine r_do ?_ (hp := dr_chainc)
      refine r_do0 ?_ (hp := dr_chainc)
      rw [hf.1, decide_eq_true hf.2, hkz, hkd]
      by_cases hno : (nth x.rels (i : Nat)).no = y.rel
      · rw [hno]
        refine run ?_
        exact ⟨[0, 1, 2, 3, 4, 5, 6], [], Gc.of, trivial⟩
      · obtain ⟨hks, hkrr⟩ := hkr hno
        rw [hks, hkrr]
        refine runC ?_
        refine r_callp true (laws_sameInts 1 1 (nth x.rels (i : Nat)).ready (by omega)) ?_ (ha := by ((simp (disch := omega) only [go_sem, ↓reduceIte, Nat.reduceEqDiff, Nat.reduceMul, Nat.reduceAdd, Nat.reduceSub, Nat.reduceLT, Nat.reduceGT, Nat.reduceLeDiff, Nat.reduceBEq, Int.reduceLT, Int.reduceLE, Int.reduceNe, Int.reduceEq, Int.reduceToNat, Int.reduceAdd, Int.reduceSub, Int.reduceMul, Int.reduceNeg, Nat.reducePow, Int.reducePow, Nat.reduceSubDiff, decide_true, decide_false, reduceCtorEq, or_self, or_false, false_or, or_true, true_or, if_false, gt_iff_lt, ge_iff_le, ne_eq, not_true_eq_false, not_false_eq_true, and_self, beq_self_eq_true, Bool.false_eq_true]) <;> with_reducible rfl))
        refine run ?_
        exact ⟨[0, 1, 2, 3, 4, 5, 6], [], Gc.of, trivial⟩
    · refine run ?_
      rw [decide_eq_true (show (q.1.rels.length : Int) ≤ (x.rels.length : Int) + 1 ∧ rollP q.1.of q.1.rels q.1.act q.1.order from ⟨by omega, hq⟩)]
      exact r_end [] []
  · rw [show applyP x.of x.rels x.act x.order y.kind y.rel y.node y.size y.dig = (⟨0, [], 0, []⟩, 1) from if_neg hok] at hsp him
    dsimp only [rollT, rollS] at hsp him
    refine runC ?_
    refine r_callp false hd ?_
    refine runC ?_
    refine r_callp true him ?_ (ts1 := [.agg [.v (.int .i64 x.of), rowR 5 0 x.rels, .v (.int .i64 x.act), .ref 1 [] 0 x.order.length], .agg [.v (.int .i64 y.kind), .v (.int .i64 y.rel), .v (.int .i64 y.node), .v (.int .i64 y.size), .v (.string y.dig)]]) (hk := by (simp only [go_sem, ↓reduceIte, Nat.reduceEqDiff, Nat.reduceMul, Nat.reduceAdd, Nat.reduceSub, Nat.reduceLT, Nat.reduceGT, Nat.reduceLeDiff, Nat.reduceBEq, Int.reduceLT, Int.reduceLE, Int.reduceNe, Int.reduceEq, Int.reduceToNat, Int.reduceAdd, Int.reduceSub, Int.reduceMul, Int.reduceNeg, Nat.reducePow, Int.reducePow, Nat.reduceSubDiff, decide_true, decide_false, reduceCtorEq, or_self, or_false, false_or, or_true, true_or, if_false, gt_iff_lt, ge_iff_le, ne_eq, not_true_eq_false, not_false_eq_true, and_self, beq_self_eq_true, Bool.false_eq_true]; try (repeat (first | exact True.intro | exact Wk.refl _ | exact Wk.nilR _ _ _ | exact Wk.nil _ _ | exact Wk.dead _ | exact Wk.bT (by assumption) | exact Wk.bF (by assumption) | exact Wk.eqI (by omega) | exact WkS.refl _ | exact Wks.same _ | exact Wks.nil | exact WkS.nil | refine And.intro ?_ ?_ | refine Wk.aggs ?_ | refine Wk.tups ?_ | refine Wks.cons ?_ ?_ | refine WkS.cons (by first | exact fun _ => rfl | exact fun h => absurd h Bool.false_ne_true) ?_ ?_ ?_ | assumption | exact (fun h => h) | exact (fun h => absurd h Bool.false_ne_true) | intro _))))
    refine runC ?_
    refine r_callp true hsp ?_ (ts1 := [.agg [.v (.int .i64 x.of), rowR 5 0 x.rels, .v (.int .i64 x.act), .ref 1 [] 0 x.order.length], .agg [.v (.int .i64 y.kind), .v (.int .i64 y.rel), .v (.int .i64 y.node), .v (.int .i64 y.size), .v (.string y.dig)]]) (hk := by (simp only [go_sem, ↓reduceIte, Nat.reduceEqDiff, Nat.reduceMul, Nat.reduceAdd, Nat.reduceSub, Nat.reduceLT, Nat.reduceGT, Nat.reduceLeDiff, Nat.reduceBEq, Int.reduceLT, Int.reduceLE, Int.reduceNe, Int.reduceEq, Int.reduceToNat, Int.reduceAdd, Int.reduceSub, Int.reduceMul, Int.reduceNeg, Nat.reducePow, Int.reducePow, Nat.reduceSubDiff, decide_true, decide_false, reduceCtorEq, or_self, or_false, false_or, or_true, true_or, if_false, gt_iff_lt, ge_iff_le, ne_eq, not_true_eq_false, not_false_eq_true, and_self, beq_self_eq_true, Bool.false_eq_true]; try (repeat (first | exact True.intro | exact Wk.refl _ | exact Wk.nilR _ _ _ | exact Wk.nil _ _ | exact Wk.dead _ | exact Wk.bT (by assumption) | exact Wk.bF (by assumption) | exact Wk.eqI (by omega) | exact WkS.refl _ | exact Wks.same _ | exact Wks.nil | exact WkS.nil | refine And.intro ?_ ?_ | refine Wk.aggs ?_ | refine Wk.tups ?_ | refine Wks.cons ?_ ?_ | refine WkS.cons (by first | exact fun _ => rfl | exact fun h => absurd h Bool.false_ne_true) ?_ ?_ ?_ | assumption | exact (fun h => h) | exact (fun h => absurd h Bool.false_ne_true) | intro _))))
    refine run ?_
    exact r_end [] []
instance (l : List Int) : Con Try.prog F.laws_FnRollKeeps [.sl false 0 l.length 1 (rowT u8C l)] ((∀ x ∈ l, 0 ≤ x ∧ x < 256) ∧ l.length ≤ 140737488351232) (.v (.bool true)) [] := ⟨fun h => laws_FnRollKeeps l h⟩

end Go.TL

/- The law of runs of commands, on trees. No conditions but those that are written. -/
namespace Go.TL
set_option linter.unusedSimpArgs false
open Go.Proofs Go.RowKit
attribute [local irreducible] wpOpsT wpT EndT Ex.seq Ex.block W

/-- A byte of a draw, or a number. -/
def atV (l : List Int) : Int := if 1 < (l.length : Int) then nth l 1 else (7 + (l.length : Int)) % 256
theorem atV_b {l : List Int} (h : ∀ x ∈ l, 0 ≤ x ∧ x < 256) : 0 ≤ atV l ∧ atV l < 256 := by
  unfold atV
  split
  · rename_i h1
    have := h _ (nth_mem (l := l) (i := 1) (by omega))
    exact this
  · omega
set_option maxHeartbeats 4000000 in
theorem laws_at (k : Nat) (l : List Int) (hpre : (∀ x ∈ l, 0 ≤ x ∧ x < 256) ∧ l.length ≤ 140737488351232) : CallsT Try.prog [] F.laws_at [.sl false k l.length 1 (rowT u8C l), .v (.int .i64 1)] (.v (.int .i64 (atV l))) [] := by
  refine fnT C.laws_at ?_
  obtain ⟨hb, hl⟩ := hpre
  refine run ?_
  refine r_ifd (fun h => ?_) (fun h => ?_)
  · have : 0 ≤ nth l 1 ∧ nth l 1 < 256 := hb _ (nth_mem (l := l) (i := 1) (by omega))
    rw [atV, if_pos h]
    refine run ?_
    exact r_end [] []
  · rw [atV, if_neg h]
    refine run ?_
    exact r_end [] []
instance (k : Nat) (l : List Int) : Con Try.prog F.laws_at [.sl false k l.length 1 (rowT u8C l), .v (.int .i64 1)] ((∀ x ∈ l, 0 ≤ x ∧ x < 256) ∧ l.length ≤ 140737488351232) (.v (.int .i64 (atV l))) [] := ⟨fun h => laws_at k l h⟩

theorem eqT {a b : Int} (h : a = b) : (a = b) = True := eq_true h
attribute [local go_sem] eqT
set_option linter.unusedSimpArgs false in
set_option maxHeartbeats 16000000 in
set_option maxHeartbeats 4000000 in
theorem laws_FnRollRun (l : List Int) (hpre : (∀ x ∈ l, 0 ≤ x ∧ x < 256) ∧ l.length ≤ 140737488351232) : CallsT Try.prog [] F.laws_FnRollRun [.sl false 0 l.length 1 (rowT u8C l)] (.v (.bool true)) [] := by
  refine fnT C.laws_FnRollRun ?_
  have hl := hpre
  refine run ?_
  refine r_ifd (fun h => ?_) (fun h => ?_)
  · refine run ?_
    exact r_end [] []
  obtain ⟨x, o, htx, ⟨hol, hod⟩, hd⟩ := drawRun_ex l hl
  have hsp := spec_RollRun 1 1 1 x.of x.rels x.act x.order o (by omega) (by omega)
  have him := impl_RollRun 1 1 1 x.of x.rels x.act x.order o (by omega) (by omega)
  have hbx := bnd_tot (rels := x.rels) (order := x.order) (by omega)
  have hcut := fun (k : Nat) (h : rollP x.of x.rels x.act x.order ∧ (o.length : Int) ≤ 80) (hk : k ≤ o.length) => runV_cut (x := x) h hk
  have hq0 : ¬ (rollP x.of x.rels x.act x.order ∧ (o.length : Int) ≤ 80) → (runV ⟨x.of, x.rels, x.act, x.order⟩ o).2.length = 0 := fun hp => by
    rw [show runV ⟨x.of, x.rels, x.act, x.order⟩ o = (x, []) from if_neg hp]; rfl
  have hq1 : (runV ⟨x.of, x.rels, x.act, x.order⟩ o).2.length ≤ 90 := by
    unfold runV
    split
    · rw [runSt_len]; exact hol
    · exact Nat.zero_le _
  generalize hqe : runV ⟨x.of, x.rels, x.act, x.order⟩ o = q at *
  dsimp only [rollT, rollS, List.cons_append, List.nil_append] at hsp him
  refine runC ?_
  refine r_callp false hd ?_
  refine runC ?_
  refine r_callp true him ?_
  refine runC ?_
  refine r_callp true hsp ?_
  refine run ?_
  refine r_ifd (fun hbad => ?_) (fun hgood => ?_)
  · refine run ?_
    rw [decide_eq_true (show (q.2.length : Int) = 0 by have := hq0 (by grind); omega)]
    exact r_end [] []
  have hp : rollP x.of x.rels x.act x.order ∧ (o.length : Int) ≤ 80 := by grind
  have hqr : rollP q.1.of q.1.rels q.1.act q.1.order := by
    rw [← hqe, show runV ⟨x.of, x.rels, x.act, x.order⟩ o = runSt ⟨x.of, x.rels, x.act, x.order⟩ o from if_pos hp]
    exact runSt_x hp.1
  have hqo : q.1.order.length ≤ 30 := by
    have h3 := actL_len q.1.rels
    rw [hqr.2.2.2.1] at h3
    have := hqr.2.1
    omega
  clear hqe
  have hat := atV_b hl.1
  obtain ⟨k, hk⟩ : ∃ k : Nat, atV l % ((o.length : Int) + 1) = k := Int.eq_ofNat_of_zero_le (Int.emod_nonneg _ (by omega))
  have hk1 : k ≤ o.length := by
    have := Int.emod_lt_of_pos (atV l) (show (0 : Int) < (o.length : Int) + 1 by omega)
    omega
  have hlt : (o.take k).length = k := by rw [List.length_take]; omega
  have hld : (o.drop k).length = o.length - k := List.length_drop
  obtain ⟨hc1, hc2, hc3⟩ := hcut k hp hk1
  have hm1 : runV ⟨x.of, x.rels, x.act, x.order⟩ (o.take k) = runSt ⟨x.of, x.rels, x.act, x.order⟩ (o.take k) := if_pos ⟨hp.1, by omega⟩
  have hmr : rollP (runV ⟨x.of, x.rels, x.act, x.order⟩ (o.take k)).1.of (runV ⟨x.of, x.rels, x.act, x.order⟩ (o.take k)).1.rels (runV ⟨x.of, x.rels, x.act, x.order⟩ (o.take k)).1.act (runV ⟨x.of, x.rels, x.act, x.order⟩ (o.take k)).1.order := by
    rw [hm1]; exact runSt_x hp.1
  have h1 := impl_RollRun 1 1 1 x.of x.rels x.act x.order (o.take k) (by omega) (by omega)
  have e0 : (x : RollV) = ⟨x.of, x.rels, x.act, x.order⟩ := rfl
  rw [← e0] at h1 hm1 hmr
  clear hcut hm1 e0
  generalize runV x (o.take k) = m at *
  have htm := tot_ok hmr
  have h2 := impl_RollRun 1 1 1 m.1.of m.1.rels m.1.act m.1.order (o.drop k) (by omega) (by omega)
  rw [show (⟨m.1.of, m.1.rels, m.1.act, m.1.order⟩ : RollV) = m.1 from rfl] at h2
  generalize runV m.1 (o.drop k) = e at *
  dsimp only [rollT, rollS, List.cons_append, List.nil_append] at h1 h2
  refine runS ?_
  rw [hk]
  refine r_gc [(3, .ptr 2 [] 0), (4, .sl false 0 o.length 5 (rowT cmdC o)), (5, .ptr 6 [] 0), (6, .ref 5 [] 0 q.2.length), (9, .v (.int .i64 k))] [⟨5, !x.rels.isEmpty, rowT relO x.rels⟩, ⟨1, !x.order.isEmpty, rowT i64C x.order⟩, ⟨0, true, [.v (.int .i64 x.of), rowR 5 0 x.rels, .v (.int .i64 x.act), rowR 1 1 x.order]⟩, ⟨5, !q.1.rels.isEmpty, rowT relO q.1.rels⟩, ⟨1, !q.1.order.isEmpty, rowT i64C q.1.order⟩, ⟨1, true, rowT i64C q.2⟩, ⟨0, true, [.v (.int .i64 q.1.of), rowR 5 3 q.1.rels, .v (.int .i64 q.1.act), rowR 1 4 q.1.order]⟩] [0, 1, 3, 4, 5, 6, 7] [2] Gc.of ?_
  refine runS ?_
  refine r_any [(4, .sl false 0 o.length 5 (rowT cmdC o)), (5, .ptr 6 [] 0), (6, .ref 5 [] 0 q.2.length), (9, .v (.int .i64 k)), (10, .ptr 10 [] 0), (11, .ref 9 [] 0 m.2.length)] [⟨5, !x.rels.isEmpty, rowT relO x.rels⟩, ⟨1, !x.order.isEmpty, rowT i64C x.order⟩, ⟨0, true, [.v (.int .i64 x.of), rowR 5 0 x.rels, .v (.int .i64 x.act), rowR 1 1 x.order]⟩, ⟨5, !q.1.rels.isEmpty, rowT relO q.1.rels⟩, ⟨1, !q.1.order.isEmpty, rowT i64C q.1.order⟩, ⟨1, true, rowT i64C q.2⟩, ⟨0, true, [.v (.int .i64 q.1.of), rowR 5 3 q.1.rels, .v (.int .i64 q.1.act), rowR 1 4 q.1.order]⟩, ⟨5, !m.1.rels.isEmpty, rowT relO m.1.rels⟩, ⟨1, !m.1.order.isEmpty, rowT i64C m.1.order⟩, ⟨1, true, rowT i64C m.2⟩, ⟨0, true, [.v (.int .i64 m.1.of), rowR 5 7 m.1.rels, .v (.int .i64 m.1.act), rowR 1 8 m.1.order]⟩] ?_ ?_
  rotate_left
  · refine a_swap 7 ?_
    refine a_swap 6 ?_
    refine a_swap 5 ?_
    refine a_two 4 ?_ ?_
    · refine any_lin ?_
      refine runC ?_
      refine r_callp true h1 ?_
      refine run ?_
      exact ⟨[0, 1, 2, 3, 4, 5, 6, 7, 8, 9, 10], [], Gc.of⟩
    · refine any_lin ?_
      refine runC ?_
      refine r_callp true h1 ?_
      refine run ?_
      exact ⟨[0, 1, 2, 3, 4, 5, 6, 8, 9, 10, 7], [], Gc.of⟩
  refine runS ?_
  refine r_any [(5, .ptr 6 [] 0), (6, .ref 5 [] 0 q.2.length), (9, .v (.int .i64 k)), (11, .ref 9 [] 0 m.2.length), (12, .ptr 14 [] 0), (13, .ref 13 [] 0 e.2.length)] [⟨5, !x.rels.isEmpty, rowT relO x.rels⟩, ⟨1, !x.order.isEmpty, rowT i64C x.order⟩, ⟨0, true, [.v (.int .i64 x.of), rowR 5 0 x.rels, .v (.int .i64 x.act), rowR 1 1 x.order]⟩, ⟨5, !q.1.rels.isEmpty, rowT relO q.1.rels⟩, ⟨1, !q.1.order.isEmpty, rowT i64C q.1.order⟩, ⟨1, true, rowT i64C q.2⟩, ⟨0, true, [.v (.int .i64 q.1.of), rowR 5 3 q.1.rels, .v (.int .i64 q.1.act), rowR 1 4 q.1.order]⟩, ⟨5, !m.1.rels.isEmpty, rowT relO m.1.rels⟩, ⟨1, !m.1.order.isEmpty, rowT i64C m.1.order⟩, ⟨1, true, rowT i64C m.2⟩, ⟨0, true, [.v (.int .i64 m.1.of), rowR 5 7 m.1.rels, .v (.int .i64 m.1.act), rowR 1 8 m.1.order]⟩, ⟨5, !e.1.rels.isEmpty, rowT relO e.1.rels⟩, ⟨1, !e.1.order.isEmpty, rowT i64C e.1.order⟩, ⟨1, true, rowT i64C e.2⟩, ⟨0, true, [.v (.int .i64 e.1.of), rowR 5 11 e.1.rels, .v (.int .i64 e.1.act), rowR 1 12 e.1.order]⟩] ?_ ?_
  rotate_left
  · refine a_swap 7 ?_
    refine a_swap 6 ?_
    refine a_swap 5 ?_
    refine a_two 4 ?_ ?_
    · refine any_lin ?_
      refine runC ?_
      refine r_callp true h2 ?_
      refine run ?_
      exact ⟨[0, 1, 2, 3, 4, 5, 6, 7, 8, 9, 10, 11, 12, 13, 14], [], Gc.of⟩
    · refine any_lin ?_
      refine runC ?_
      refine r_callp true h2 ?_
      refine run ?_
      exact ⟨[0, 1, 2, 3, 4, 5, 6, 7, 8, 9, 10, 12, 13, 14, 11], [], Gc.of⟩
  obtain ⟨e1, e2⟩ := e
  dsimp only at hc2 hc3
  subst hc3
  refine runC ?_
  refine r_callp true (laws_sameInts 1 1 q.1.order (by omega)) ?_ (ha := by ((simp (disch := omega) only [go_sem, ↓reduceIte, Nat.reduceEqDiff, Nat.reduceMul, Nat.reduceAdd, Nat.reduceSub, Nat.reduceLT, Nat.reduceGT, Nat.reduceLeDiff, Nat.reduceBEq, Int.reduceLT, Int.reduceLE, Int.reduceNe, Int.reduceEq, Int.reduceToNat, Int.reduceAdd, Int.reduceSub, Int.reduceMul, Int.reduceNeg, Nat.reducePow, Int.reducePow, Nat.reduceSubDiff, decide_true, decide_false, reduceCtorEq, or_self, or_false, false_or, or_true, true_or, if_false, gt_iff_lt, ge_iff_le, ne_eq, not_true_eq_false, not_false_eq_true, and_self, beq_self_eq_true, Bool.false_eq_true]) <;> with_reducible rfl))
  refine run ?_
  exact r_end [] []
instance (l : List Int) : Con Try.prog F.laws_FnRollRun [.sl false 0 l.length 1 (rowT u8C l)] ((∀ x ∈ l, 0 ≤ x ∧ x < 256) ∧ l.length ≤ 140737488351232) (.v (.bool true)) [] := ⟨fun h => laws_FnRollRun l h⟩

end Go.TL
