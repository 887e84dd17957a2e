/- Texts joined. No conditions but those that are written. -/
import Derived.Test.YthkahdjgkcccgaaJG11G12
import Derived.Test.YthkahdjgkcccgaaJM6M9
import Derived.Test.YthkahdjgkcccgaaG13
import Derived.Test.YthkahdjgkcccgaaJM10M11
/- The law of what a roll keeps, on trees. No conditions but those that are written. -/
namespace Go.TL
set_option linter.unusedSimpArgs false
open Go.Proofs Go.RowKit
attribute [local irreducible] wpOpsT wpT EndT Ex.seq Ex.block W

set_option maxHeartbeats 4000000 in
theorem laws_big (k : Nat) (l : List Int) : CallsT Try.prog [] F.laws_big [.sl false k l.length 1 (rowT u8C l)] (.v (.bool (decide (1048576 < (l.length : Int))))) [] := by
  refine fnT C.laws_big ?_
  refine run ?_
  exact r_end [] []
instance (k : Nat) (l : List Int) : Con Try.prog F.laws_big [.sl false k l.length 1 (rowT u8C l)] True (.v (.bool (decide (1048576 < (l.length : Int))))) [] := ⟨fun _ => laws_big k l⟩

set_option maxHeartbeats 4000000 in
theorem laws_sameInts (k k2 : Nat) (l : List Int) (hpre : l.length ≤ 140737488351232) : CallsT Try.prog [] F.laws_sameInts [.sl false k l.length 1 (rowT i64C l), .sl false k2 l.length 1 (rowT i64C l)] (.v (.bool true)) [] := by
  refine fnT C.laws_sameInts ?_
  refine run ?_
  refine r_for l.length (fun i => [(0, .sl false k l.length 1 (rowT i64C l)), (1, .sl false k2 l.length 1 (rowT i64C l)), (5, .v (.int .i64 i))]) (fun _ => []) (fun _ => True) [] [] trivial Gc.of (fun i hi _ => ?_) (fun _ => ?_)
  · refine run ?_
    exact ⟨[], [], Gc.of, trivial⟩
  · refine run ?_
    exact r_end [] []
instance (k k2 : Nat) (l : List Int) : Con Try.prog F.laws_sameInts [.sl false k l.length 1 (rowT i64C l), .sl false k2 l.length 1 (rowT i64C l)] (l.length ≤ 140737488351232) (.v (.bool true)) [] := ⟨fun h => laws_sameInts k k2 l h⟩

@[go_sem] theorem off_5 (x a b : Nat) : x * 5 + a + b = x * 5 + (a + b) := Nat.add_assoc ..
theorem sameInts0 : CallsT Try.prog [] F.laws_sameInts [.sl false 1 0 1 [], .sl false 1 0 1 []] (.v (.bool true)) [] := laws_sameInts 1 1 [] (by simp)
theorem applyR_code (of : Int) (rels : List RelV) (act : Int) (order : List Int) (k r n z : Int) (d : ByteArray) : ¬ (applyR of rels act order k r n z d).2 = 1 := by
  unfold applyR
  repeat' (first | (dsimp only; omega) | split)
theorem relF_keep {of : Int} {rels : List RelV} {act : Int} {order : List Int} (h : rollP of rels act order) {i : Nat} (hi : i < rels.length) {n : Int} (hn : (nth rels (i : Nat)).no = n) : relF of rels act order n = nth rels (i : Nat) ∧ relOk of rels act order n := by
  have e : findR rels n = i := findR_at hi hn fun j hj hh => by
    have := nos_lt' h.2.2.1 hj hi
    omega
  have h0 : ¬ (findR rels n < 0 ∨ ¬ rollP of rels act order) := fun hh => by
    rcases hh with hh | hh
    · omega
    · exact hh h
  exact ⟨by rw [relF, if_neg h0, e], h0⟩

theorem eqF {a b : Int} (h : ¬ a = b) : (a = b) = False := eq_false h
attribute [local go_sem] eqF
set_option linter.unusedSimpArgs false in
set_option maxHeartbeats 16000000 in
set_option maxHeartbeats 4000000 in
theorem laws_FnRollKeeps (l : List Int) (hpre : (∀ x ∈ l, 0 ≤ x ∧ x < 256) ∧ l.length ≤ 140737488351232) : CallsT Try.prog [] F.laws_FnRollKeeps [.sl false 0 l.length 1 (rowT u8C l)] (.v (.bool true)) [] := by
  refine fnT C.laws_FnRollKeeps ?_
  have hl := hpre
  refine run ?_
  refine r_ifd (fun h => ?_) (fun h => ?_)
  · refine run ?_
    exact r_end [] []
  obtain ⟨x, y, htx, hy, hd⟩ := drawApply_ex l hl
  have hbx := bnd_tot (rels := x.rels) (order := x.order) (by omega)
  have hsp := spec_RollApply 1 1 x.of x.rels x.act x.order y.kind y.rel y.node y.size y.dig hbx (by omega)
  have him := impl_RollApply 1 1 x.of x.rels x.act x.order y.kind y.rel y.node y.size y.dig hbx (by omega)
  by_cases hok : rollP x.of x.rels x.act x.order ∧ cmdP y.kind y.rel y.node y.size y.dig
  · rw [show applyP x.of x.rels x.act x.order y.kind y.rel y.node y.size y.dig = applyR x.of x.rels x.act x.order y.kind y.rel y.node y.size y.dig from if_pos hok] at hsp him
    obtain ⟨hq, hk0, hk1, hk⟩ := roll_apply hok.1 hok.2
    have hcode := applyR_code x.of x.rels x.act x.order y.kind y.rel y.node y.size y.dig
    generalize applyR x.of x.rels x.act x.order y.kind y.rel y.node y.size y.dig = q at *
    have htq := tot_ok hq
    have hbq := bnd_tot (rels := q.1.rels) (order := q.1.order) (by omega)
    dsimp only [rollT, rollS] at hsp him
    refine runC ?_
    refine r_callp false hd ?_
    refine runC ?_
    refine r_callp true him ?_ (ts1 := [.agg [.v (.int .i64 x.of), rowR 5 0 x.rels, .v (.int .i64 x.act), .ref 1 [] 0 x.order.length], .agg [.v (.int .i64 y.kind), .v (.int .i64 y.rel), .v (.int .i64 y.node), .v (.int .i64 y.size), .v (.string y.dig)]]) (hk := by (simp only [go_sem, ↓reduceIte, Nat.reduceEqDiff, Nat.reduceMul, Nat.reduceAdd, Nat.reduceSub, Nat.reduceLT, Nat.reduceGT, Nat.reduceLeDiff, Nat.reduceBEq, Int.reduceLT, Int.reduceLE, Int.reduceNe, Int.reduceEq, Int.reduceToNat, Int.reduceAdd, Int.reduceSub, Int.reduceMul, Int.reduceNeg, Nat.reducePow, Int.reducePow, Nat.reduceSubDiff, decide_true, decide_false, reduceCtorEq, or_self, or_false, false_or, or_true, true_or, if_false, gt_iff_lt, ge_iff_le, ne_eq, not_true_eq_false, not_false_eq_true, and_self, beq_self_eq_true, Bool.false_eq_true]; try (repeat (first | exact True.intro | exact Wk.refl _ | exact Wk.nilR _ _ _ | exact Wk.nil _ _ | exact Wk.dead _ | exact Wk.bT (by assumption) | exact Wk.bF (by assumption) | exact Wk.eqI (by omega) | exact WkS.refl _ | exact Wks.same _ | exact Wks.nil | exact WkS.nil | refine And.intro ?_ ?_ | refine Wk.aggs ?_ | refine Wk.tups ?_ | refine Wks.cons ?_ ?_ | refine WkS.cons (by first | exact fun _ => rfl | exact fun h => absurd h Bool.false_ne_true) ?_ ?_ ?_ | assumption | exact (fun h => h) | exact (fun h => absurd h Bool.false_ne_true) | intro _))))
    refine runC ?_
    refine r_callp true hsp ?_ (ts1 := [.agg [.v (.int .i64 x.of), rowR 5 0 x.rels, .v (.int .i64 x.act), .ref 1 [] 0 x.order.length], .agg [.v (.int .i64 y.kind), .v (.int .i64 y.rel), .v (.int .i64 y.node), .v (.int .i64 y.size), .v (.string y.dig)]]) (hk := by (simp only [go_sem, ↓reduceIte, Nat.reduceEqDiff, Nat.reduceMul, Nat.reduceAdd, Nat.reduceSub, Nat.reduceLT, Nat.reduceGT, Nat.reduceLeDiff, Nat.reduceBEq, Int.reduceLT, Int.reduceLE, Int.reduceNe, Int.reduceEq, Int.reduceToNat, Int.reduceAdd, Int.reduceSub, Int.reduceMul, Int.reduceNeg, Nat.reducePow, Int.reducePow, Nat.reduceSubDiff, decide_true, decide_false, reduceCtorEq, or_self, or_false, false_or, or_true, true_or, if_false, gt_iff_lt, ge_iff_le, ne_eq, not_true_eq_false, not_false_eq_true, and_self, beq_self_eq_true, Bool.false_eq_true]; try (repeat (first | exact True.intro | exact Wk.refl _ | exact Wk.nilR _ _ _ | exact Wk.nil _ _ | exact Wk.dead _ | exact Wk.bT (by assumption) | exact Wk.bF (by assumption) | exact Wk.eqI (by omega) | exact WkS.refl _ | exact Wks.same _ | exact Wks.nil | exact WkS.nil | refine And.intro ?_ ?_ | refine Wk.aggs ?_ | refine Wk.tups ?_ | refine Wks.cons ?_ ?_ | refine WkS.cons (by first | exact fun _ => rfl | exact fun h => absurd h Bool.false_ne_true) ?_ ?_ ?_ | assumption | exact (fun h => h) | exact (fun h => absurd h Bool.false_ne_true) | intro _))))
    refine run ?_
    have hlx := rels_len (rels := x.rels) (order := x.order) (by omega)
    refine r_for x.rels.length (fun i => [(3, .ptr 2 [] 0), (4, .ptr 3 [] 0), (5, .ptr 6 [] 0), (9, .v (.int .i64 i))]) (fun _ => [⟨5, !x.rels.isEmpty, rowT relO x.rels⟩, ⟨1, true, rowT i64C x.order⟩, ⟨0, true, [.v (.int .i64 x.of), nilR 0 x.rels, .v (.int .i64 x.act), .ref 1 [] 0 x.order.length]⟩, ⟨0, true, [.v (.int .i64 y.kind), .v (.int .i64 y.rel), .v (.int .i64 y.node), .v (.int .i64 y.size), .v (.string y.dig)]⟩, ⟨5, !q.1.rels.isEmpty, rowT relO q.1.rels⟩, ⟨1, !q.1.order.isEmpty, rowT i64C q.1.order⟩, ⟨0, true, [.v (.int .i64 q.1.of), rowR 5 4 q.1.rels, .v (.int .i64 q.1.act), rowR 1 5 q.1.order]⟩]) (fun _ => True) [0, 1, 2, 3, 4, 5, 6] [] trivial Gc.of (fun i hi _ => ?_) (fun _ => ?_)
    · have hne : x.rels ≠ [] := by intro h; rw [h] at hi; simp at hi
      obtain ⟨hkn, hkz, hkd, hkr, hkl⟩ := hk i hi
      have hf := relF_keep hq (i := i) (by omega) hkn
      have hlr := ready_len (rels := x.rels) (order := x.order) (by omega) (x := (i : Int)) (by omega) (by omega)
      have hlq := ready_len (rels := q.1.rels) (order := q.1.order) (by omega) (x := (i : Int)) (by omega) (by omega)
      rw [nilR_ne 0 hne, isE hne, row_split (enc := relO) x.rels i hi]
      have ht : (x.rels.take i).length = i := by rw [List.length_take]; omega
      dsimp only [relO, List.cons_append, List.nil_append]
      by_cases hr : (nth x.rels (i : Nat)).ready.length = 0
      · have hrn := List.eq_nil_of_length_eq_zero hr
        rw [hrn, show ownC ([] : List Int).length 1 (rowT i64C []) = .sl false 0 0 1 [] from ownC_nil _ _]
        refine runC ?_
        refine r_callc ?_ (hp := dr_still)
        refine runC ?_
        refine r_do ?_ (hp := dr_chainc)
        refine r_do0 ?_ (hp := dr_chainc)
        rw [hf.1, decide_eq_true hf.2, hkz, hkd]
        by_cases hno : (nth x.rels (i : Nat)).no = y.rel
        · rw [hno]
          refine run ?_
          exact ⟨[0, 1, 2, 3, 4, 5, 6], [], Gc.of, trivial⟩
        · obtain ⟨hks, hkrr⟩ := hkr hno
          rw [hks, hkrr, hrn]
          refine runC ?_
          refine r_callp true sameInts0 ?_
          refine run ?_
          exact ⟨[0, 1, 2, 3, 4, 5, 6], [], Gc.of, trivial⟩
      rw [ownC_pos _ _ hr]
      refine runC ?_
      refine r_callc ?_ (hp := dr_still)
      refine runC ?_
      refine r_do ?_ (hp := dr_chainc)
      refine r_do0 ?_ (hp := dr_chainc)
      rw [hf.1, decide_eq_true hf.2, hkz, hkd]
      by_cases hno : (nth x.rels (i : Nat)).no = y.rel
      · rw [hno]
        refine run ?_
        exact ⟨[0, 1, 2, 3, 4, 5, 6], [], Gc.of, trivial⟩
      · obtain ⟨hks, hkrr⟩ := hkr hno
        rw [hks, hkrr]
        refine runC ?_
        refine r_callp true (laws_sameInts 1 1 (nth x.rels (i : Nat)).ready (by omega)) ?_ (ha := by ((simp (disch := omega) only [go_sem, ↓reduceIte, Nat.reduceEqDiff, Nat.reduceMul, Nat.reduceAdd, Nat.reduceSub, Nat.reduceLT, Nat.reduceGT, Nat.reduceLeDiff, Nat.reduceBEq, Int.reduceLT, Int.reduceLE, Int.reduceNe, Int.reduceEq, Int.reduceToNat, Int.reduceAdd, Int.reduceSub, Int.reduceMul, Int.reduceNeg, Nat.reducePow, Int.reducePow, Nat.reduceSubDiff, decide_true, decide_false, reduceCtorEq, or_self, or_false, false_or, or_true, true_or, if_false, gt_iff_lt, ge_iff_le, ne_eq, not_true_eq_false, not_false_eq_true, and_self, beq_self_eq_true, Bool.false_eq_true]) <;> with_reducible rfl))
        refine run ?_
        exact ⟨[0, 1, 2, 3, 4, 5, 6], [], Gc.of, trivial⟩
    · refine run ?_
      rw [decide_eq_true (show (q.1.rels.length : Int) ≤ (x.rels.length : Int) + 1 ∧ rollP q.1.of q.1.rels q.1.act q.1.order from ⟨by omega, hq⟩)]
      exact r_end [] []
  · rw [show applyP x.of x.rels x.act x.order y.kind y.rel y.node y.size y.dig = (⟨0, [], 0, []⟩, 1) from if_neg hok] at hsp him
    dsimp only [rollT, rollS] at hsp him
    refine runC ?_
    refine r_callp false hd ?_
    refine runC ?_
    refine r_callp true him ?_ (ts1 := [.agg [.v (.int .i64 x.of), rowR 5 0 x.rels, .v (.int .i64 x.act), .ref 1 [] 0 x.order.length], .agg [.v (.int .i64 y.kind), .v (.int .i64 y.rel), .v (.int .i64 y.node), .v (.int .i64 y.size), .v (.string y.dig)]]) (hk := by (simp only [go_sem, ↓reduceIte, Nat.reduceEqDiff, Nat.reduceMul, Nat.reduceAdd, Nat.reduceSub, Nat.reduceLT, Nat.reduceGT, Nat.reduceLeDiff, Nat.reduceBEq, Int.reduceLT, Int.reduceLE, Int.reduceNe, Int.reduceEq, Int.reduceToNat, Int.reduceAdd, Int.reduceSub, Int.reduceMul, Int.reduceNeg, Nat.reducePow, Int.reducePow, Nat.reduceSubDiff, decide_true, decide_false, reduceCtorEq, or_self, or_false, false_or, or_true, true_or, if_false, gt_iff_lt, ge_iff_le, ne_eq, not_true_eq_false, not_false_eq_true, and_self, beq_self_eq_true, Bool.false_eq_true]; try (repeat (first | exact True.intro | exact Wk.refl _ | exact Wk.nilR _ _ _ | exact Wk.nil _ _ | exact Wk.dead _ | exact Wk.bT (by assumption) | exact Wk.bF (by assumption) | exact Wk.eqI (by omega) | exact WkS.refl _ | exact Wks.same _ | exact Wks.nil | exact WkS.nil | refine And.intro ?_ ?_ | refine Wk.aggs ?_ | refine Wk.tups ?_ | refine Wks.cons ?_ ?_ | refine WkS.cons (by first | exact fun _ => rfl | exact fun h => absurd h Bool.false_ne_true) ?_ ?_ ?_ | assumption | exact (fun h => h) | exact (fun h => absurd h Bool.false_ne_true) | intro _))))
    refine runC ?_
    refine r_callp true hsp ?_ (ts1 := [.agg [.v (.int .i64 x.of), rowR 5 0 x.rels, .v (.int .i64 x.act), .ref 1 [] 0 x.order.length], .agg [.v (.int .i64 y.kind), .v (.int .i64 y.rel), .v (.int .i64 y.node), .v (.int .i64 y.size), .v (.string y.dig)]]) (hk := by (simp only [go_sem, ↓reduceIte, Nat.reduceEqDiff, Nat.reduceMul, Nat.reduceAdd, Nat.reduceSub, Nat.reduceLT, Nat.reduceGT, Nat.reduceLeDiff, Nat.reduceBEq, Int.reduceLT, Int.reduceLE, Int.reduceNe, Int.reduceEq, Int.reduceToNat, Int.reduceAdd, Int.reduceSub, Int.reduceMul, Int.reduceNeg, Nat.reducePow, Int.reducePow, Nat.reduceSubDiff, decide_true, decide_false, reduceCtorEq, or_self, or_false, false_or, or_true, true_or, if_false, gt_iff_lt, ge_iff_le, ne_eq, not_true_eq_false, not_false_eq_true, and_self, beq_self_eq_true, Bool.false_eq_true]; try (repeat (first | exact True.intro | exact Wk.refl _ | exact Wk.nilR _ _ _ | exact Wk.nil _ _ | exact Wk.dead _ | exact Wk.bT (by assumption) | exact Wk.bF (by assumption) | exact Wk.eqI (by omega) | exact WkS.refl _ | exact Wks.same _ | exact Wks.nil | exact WkS.nil | refine And.intro ?_ ?_ | refine Wk.aggs ?_ | refine Wk.tups ?_ | refine Wks.cons ?_ ?_ | refine WkS.cons (by first | exact fun _ => rfl | exact fun h => absurd h Bool.false_ne_true) ?_ ?_ ?_ | assumption | exact (fun h => h) | exact (fun h => absurd h Bool.false_ne_true) | intro _))))
    refine run ?_
    exact r_end [] []
instance (l : List Int) : Con Try.prog F.laws_FnRollKeeps [.sl false 0 l.length 1 (rowT u8C l)] ((∀ x ∈ l, 0 ≤ x ∧ x < 256) ∧ l.length ≤ 140737488351232) (.v (.bool true)) [] := ⟨fun h => laws_FnRollKeeps l h⟩

end Go.TL

/- The law of rolls, in plain words: what is active never falls, and only what all nodes have becomes active. No conditions. -/
namespace Go.TL
set_option linter.unusedSimpArgs false
open Go.Proofs Go.RowKit
attribute [local irreducible] wpOpsT wpT EndT Ex.seq Ex.block W

theorem relF_at {of : Int} {rels : List RelV} {act : Int} {order : List Int} {n : Int} (h : rollP of rels act order) (hf : ¬ findR rels n < 0) : relOk of rels act order n ∧ relF of rels act order n = nth rels (findR rels n) := by
  have h0 : ¬ (findR rels n < 0 ∨ ¬ rollP of rels act order) := fun hh => by
    rcases hh with hh | hh
    · exact hf hh
    · exact hh h
  exact ⟨h0, if_neg h0⟩

theorem apply_law {of : Int} {rels : List RelV} {act : Int} {order : List Int} {k r n z : Int} {d : ByteArray} (h : rollP of rels act order) :
    (applyR of rels act order k r n z d).1.of = of ∧ act ≤ (applyR of rels act order k r n z d).1.act ∧ (¬ (applyR of rels act order k r n z d).2 = 0 → (applyR of rels act order k r n z d).1 = ⟨of, rels, act, order⟩) ∧
    (act < (applyR of rels act order k r n z d).1.act → relOk of rels act order (applyR of rels act order k r n z d).1.act ∧ ((relF of rels act order (applyR of rels act order k r n z d).1.act).ready.length : Int) = of ∧ (relF of rels act order (applyR of rels act order k r n z d).1.act).state = 1) := by
  have t0 : ∀ c : Int, of = of ∧ act ≤ act ∧ (¬ c = 0 → (⟨of, rels, act, order⟩ : RollV) = ⟨of, rels, act, order⟩) ∧ (act < act → relOk of rels act order act ∧ ((relF of rels act order act).ready.length : Int) = of ∧ (relF of rels act order act).state = 1) :=
    fun c => ⟨rfl, Int.le_refl _, fun _ => rfl, fun h => absurd h (Int.lt_irrefl _)⟩
  have t1 : ∀ (l2 : List RelV), of = of ∧ act ≤ act ∧ (¬ (0 : Int) = 0 → (⟨of, l2, act, order⟩ : RollV) = ⟨of, rels, act, order⟩) ∧ (act < act → relOk of rels act order act ∧ ((relF of rels act order act).ready.length : Int) = of ∧ (relF of rels act order act).state = 1) :=
    fun l2 => ⟨rfl, Int.le_refl _, fun h => absurd rfl h, fun h => absurd h (Int.lt_irrefl _)⟩
  unfold applyR
  split
  · exact t0 0
  split
  · split
    · exact t0 2
    split
    · exact t0 7
    exact t1 _
  split
  · exact t0 3
  rename_i h1
  split
  · exact t0 4
  rename_i h2
  split
  · exact t1 _
  split
  · split
    · exact t0 6
    rename_i h3
    split
    · exact t0 5
    rename_i h4
    have hf := relF_at (n := r) h (by omega)
    obtain ⟨i, hi⟩ := Int.eq_ofNat_of_zero_le (show 0 ≤ findR rels r by omega)
    obtain ⟨hil, _⟩ := findR_ok hi
    have hlen := nodes_len h.1 (h.2.2.1 i hil).2.2.2.2.1
    rw [← hi] at hlen
    refine ⟨rfl, by dsimp only; omega, fun hh => absurd rfl hh, fun _ => ⟨hf.1, ?_, ?_⟩⟩
    · dsimp only
      rw [hf.2]; omega
    · dsimp only
      rw [hf.2]; exact Decidable.not_not.1 h2
  split
  · exact t1 _
  · exact t0 0

/-- What a node lacks. -/
def lackR (l : List RelV) (n : Int) : List Int := (l.filter fun x => decide (x.state = 1 ∧ ¬ n ∈ x.ready)).map (·.no)
theorem lackR_yes {l : List RelV} {n : Int} {i : Nat} (hi : i < l.length) (h : (nth l (i : Nat)).state = 1 ∧ ¬ n ∈ (nth l (i : Nat)).ready) : lackR (l.take i) n ++ [(nth l (i : Nat)).no] = lackR (l.take (i + 1)) n := by
  rw [take_nth hi]; simp [lackR, h]
theorem lackR_no {l : List RelV} {n : Int} {i : Nat} (hi : i < l.length) (h : ¬ ((nth l (i : Nat)).state = 1 ∧ ¬ n ∈ (nth l (i : Nat)).ready)) : lackR (l.take i) n = lackR (l.take (i + 1)) n := by
  have hd : decide ((nth l (i : Nat)).state = 1 ∧ ¬ n ∈ (nth l (i : Nat)).ready) = false := decide_eq_false h
  rw [take_nth hi]
  unfold lackR
  rw [List.filter_append, List.filter_cons, hd]
  simp
theorem lackR_len (l : List RelV) (n : Int) : (lackR l n).length ≤ l.length := by unfold lackR; rw [List.length_map]; exact List.length_filter_le ..
theorem lack_law {of : Int} {rels : List RelV} {act : Int} {order : List Int} {n : Int} (h : rollP of rels act order) {i : Nat} (hi : i < (lackR rels n).length) :
    relOk of rels act order (nth (lackR rels n) (i : Nat)) ∧ (relF of rels act order (nth (lackR rels n) (i : Nat))).state = 1 ∧ ¬ n ∈ (relF of rels act order (nth (lackR rels n) (i : Nat))).ready ∧ ∃ j, j < rels.length ∧ relF of rels act order (nth (lackR rels n) (i : Nat)) = nth rels (j : Nat) := by
  have hm : nth (lackR rels n) (i : Nat) ∈ lackR rels n := nth_mem hi
  generalize nth (lackR rels n) (i : Nat) = y at *
  unfold lackR at hm
  obtain ⟨x, hx, rfl⟩ := List.mem_map.1 hm
  obtain ⟨hx, hc⟩ := List.mem_filter.1 hx
  obtain ⟨j, hj, rfl⟩ := List.getElem_of_mem hx
  have hc := of_decide_eq_true hc
  have e := nth_nat hj
  rw [← e] at hc ⊢
  obtain ⟨h1, h2⟩ := relF_keep h hj rfl
  rw [h1]
  exact ⟨h2, hc.1, hc.2, j, hj, rfl⟩

end Go.TL

/- What a node lacks of a roll; numbers in rows. No conditions but those that are written. -/
namespace Go.TL
set_option linter.unusedSimpArgs false
open Go.Proofs Go.RowKit
attribute [local irreducible] wpOpsT wpT EndT Ex.seq Ex.block W

set_option maxHeartbeats 4000000 in
theorem impl_RollLacks (k0 k1 : Nat) (of : Int) (rels : List RelV) (act : Int) (order : List Int) (n : Int) (hpre : totRoll rels order ≤ 1048576 ∧ rollP of rels act order ∧ 0 ≤ n ∧ n ≤ of - 1) : CallsT Try.prog [] F.impl_RollLacks [.agg [.v (.int .i64 of), .sl false k0 rels.length 5 (rowT relC rels), .v (.int .i64 act), .sl false k1 order.length 1 (rowT i64C order)], .v (.int .i64 n)] (.sl false 0 (lackR rels n).length 1 (rowT i64C (lackR rels n))) [] := by
  refine fnT C.impl_RollLacks ?_
  obtain ⟨ht, hp, hn0, hn1⟩ := hpre
  have hb := bnd_tot ht
  have hlr := rels_len ht
  have c1 := impl_RollOk 1 1 of rels act order ⟨hb, ht⟩
  rw [decide_eq_true hp] at c1
  have hw := wrap_of hp.1
  have c2 := impl_within n 0 (of - 1)
  rw [decide_eq_true (show 0 ≤ n ∧ n ≤ of - 1 from ⟨hn0, hn1⟩)] at c2
  have hof := hp.1
  unfold ofP at hof
  refine runC ?_
  refine r_callp true c1 ?_
  refine runC ?_
  refine r_callp false c2 ?_
  refine run ?_
  refine r_for rels.length (fun i => [(1, .v (.int .i64 n)), (5, .ref 1 [] 0 (lackR (rels.take i) n).length), (22, .sl false k0 rels.length 5 (rowT relC rels)), (23, .v (.int .i64 rels.length)), (24, .v (.int .i64 i))]) (fun i => [⟨0, true, [.v (.int .i64 of), .sl false k0 rels.length 5 (rowT relC rels), .v (.int .i64 act), .sl false k1 order.length 1 (rowT i64C order)]⟩, ⟨1, true, rowT i64C (lackR (rels.take i) n)⟩]) (fun _ => True) [0, 1] [] trivial Gc.of (fun i hi _ => ?_) (fun _ => ?_)
  · have hr := (ready_len ht (x := (i : Int)) (by omega) (by omega)).1
    have hal := lackR_len (rels.take i) n
    rw [List.length_take] at hal
    refine run ?_
    refine r_ifd (fun h => ?_) (fun h => ?_)
    · rw [← lackR_yes hi h]
      refine run ?_
      exact ⟨[0, 4], [], Gc.of, trivial⟩
    · rw [← lackR_no hi h]
      refine run ?_
      exact ⟨[0, 1], [], Gc.of, trivial⟩
  · rw [List.take_length]
    refine run ?_
    exact r_end [] [1]
instance (k0 k1 : Nat) (of : Int) (rels : List RelV) (act : Int) (order : List Int) (n : Int) : Con Try.prog F.impl_RollLacks [.agg [.v (.int .i64 of), .sl false k0 rels.length 5 (rowT relC rels), .v (.int .i64 act), .sl false k1 order.length 1 (rowT i64C order)], .v (.int .i64 n)] (totRoll rels order ≤ 1048576 ∧ rollP of rels act order ∧ 0 ≤ n ∧ n ≤ of - 1) (.sl false 0 (lackR rels n).length 1 (rowT i64C (lackR rels n))) [] := ⟨fun h => impl_RollLacks k0 k1 of rels act order n h⟩

set_option maxHeartbeats 4000000 in
theorem laws_within (k : Nat) (l : List Int) (v : Int) (hpre : l.length ≤ 140737488351232) : CallsT Try.prog [] F.laws_within [.sl false k l.length 1 (rowT i64C l), .v (.int .i64 v)] (.v (.bool (decide (v ∈ l)))) [] := by
  refine fnT C.laws_within ?_
  refine run ?_
  refine r_for l.length (fun i => [(0, .sl false k l.length 1 (rowT i64C l)), (1, .v (.int .i64 v)), (5, .v (.int .i64 i))]) (fun _ => []) (fun i => ∀ j, j < i → ¬ nth l (j : Nat) = v) [] [] all_0 Gc.of (fun i hi hv => ?_) (fun hv => ?_)
  · refine run ?_
    refine r_ifd (fun h => ?_) (fun h => ?_)
    · refine run ?_
      exact r_endT (h ▸ nth_mem hi)
    · refine run ?_
      exact ⟨[], [], Gc.of, all_step hv h⟩
  · refine run ?_
    refine r_endF ?_
    intro hm
    obtain ⟨i, hi, e⟩ := List.getElem_of_mem hm
    exact hv i hi (by rw [nth_nat hi]; exact e)
instance (k : Nat) (l : List Int) (v : Int) : Con Try.prog F.laws_within [.sl false k l.length 1 (rowT i64C l), .v (.int .i64 v)] (l.length ≤ 140737488351232) (.v (.bool (decide (v ∈ l)))) [] := ⟨fun h => laws_within k l v h⟩

end Go.TL

/- The law of rolls through a run, on trees. No conditions but those that are written. -/
namespace Go.TL
set_option linter.unusedSimpArgs false
open Go.Proofs Go.RowKit
attribute [local irreducible] wpOpsT wpT EndT Ex.seq Ex.block W

/-- A roll behind its first commands. -/
def rollAt (o : List CmdV) (i : Nat) : RollV := (runSt ⟨3, [], 0, []⟩ (o.take i)).1
theorem rollAt_0 (o : List CmdV) : rollAt o 0 = ⟨3, [], 0, []⟩ := rfl
theorem roll_0 : rollP 3 [] 0 [] := by
  refine ⟨.inr (.inl rfl), by simp, fun i hi => absurd hi (Nat.not_lt_zero _), rfl, rfl⟩
theorem rollAt_ok (o : List CmdV) (i : Nat) : rollP (rollAt o i).of (rollAt o i).rels (rollAt o i).act (rollAt o i).order := runSt_x roll_0
theorem rollAt_s (o : List CmdV) {i : Nat} (hi : i < o.length) : rollAt o (i + 1) = if (applyC (rollAt o i) (nth o (i : Nat))).2 = 0 then (applyC (rollAt o i) (nth o (i : Nat))).1 else rollAt o i := by
  unfold rollAt
  rw [runSt_s ⟨3, [], 0, []⟩ hi]
  rfl
theorem applyC_of (x : RollV) (y : CmdV) (h : (applyC x y).2 = 0) (hx : rollP x.of x.rels x.act x.order) : (applyC x y).1.of = x.of := by
  unfold applyC applyP at h ⊢
  split
  · exact (apply_law hx).1
  · rename_i hh; rw [if_neg hh] at h; cases h
theorem rollAt_of (o : List CmdV) : ∀ i, i ≤ o.length → (rollAt o i).of = 3
  | 0, _ => rfl
  | i + 1, hi => by
    rw [rollAt_s o hi]
    split
    · rename_i h
      rw [applyC_of _ _ h (rollAt_ok o i)]
      exact rollAt_of o i (by omega)
    · exact rollAt_of o i (by omega)

theorem apply_case {of : Int} {rels : List RelV} {act : Int} {order : List Int} {k r n z : Int} {d : ByteArray} (h : rollP of rels act order) : ¬ (applyP of rels act order k r n z d).2 = 1 → rollP (applyP of rels act order k r n z d).1.of (applyP of rels act order k r n z d).1.rels (applyP of rels act order k r n z d).1.act (applyP of rels act order k r n z d).1.order ∧ (applyP of rels act order k r n z d).1.of = of ∧ act ≤ (applyP of rels act order k r n z d).1.act ∧ (¬ (applyP of rels act order k r n z d).2 = 0 → (applyP of rels act order k r n z d).1 = ⟨of, rels, act, order⟩) ∧
    (act < (applyP of rels act order k r n z d).1.act → relOk of rels act order (applyP of rels act order k r n z d).1.act ∧ ((relF of rels act order (applyP of rels act order k r n z d).1.act).ready.length : Int) = of ∧ (relF of rels act order (applyP of rels act order k r n z d).1.act).state = 1) := by
  by_cases hc : cmdP k r n z d
  · rw [show applyP of rels act order k r n z d = applyR of rels act order k r n z d from if_pos ⟨h, hc⟩]
    exact fun _ => ⟨(roll_apply h hc).1, apply_law h⟩
  · rw [show applyP of rels act order k r n z d = (⟨0, [], 0, []⟩, 1) from if_neg fun hh => hc hh.2]
    exact fun hh => absurd rfl hh

/-- The roots of the loop. -/
def lawG (x : RollV) : Store := [⟨5, !x.rels.isEmpty, rowT relO x.rels⟩, ⟨1, !x.order.isEmpty, rowT i64C x.order⟩, ⟨0, true, [.v (.int .i64 x.of), rowR 5 0 x.rels, .v (.int .i64 x.act), rowR 1 1 x.order]⟩]

theorem ltT {a b : Int} (h : a < b) : (a < b) = True := eq_true h
attribute [local go_sem] eqF ltT
set_option linter.unusedSimpArgs false in
set_option maxHeartbeats 16000000 in
set_option maxHeartbeats 4000000 in
theorem laws_FnRoll (l : List Int) (hpre : (∀ x ∈ l, 0 ≤ x ∧ x < 256) ∧ l.length ≤ 140737488351232) : CallsT Try.prog [] F.laws_FnRoll [.sl false 0 l.length 1 (rowT u8C l)] (.v (.bool true)) [] := by
  refine fnT C.laws_FnRoll ?_
  have hl := hpre
  refine run ?_
  refine r_ifd (fun h => ?_) (fun h => ?_)
  · refine run ?_
    exact r_end [] []
  obtain ⟨x, o, htx, ⟨hol, hod⟩, hd⟩ := drawRun_ex l hl
  refine runC ?_
  refine r_callp false hd ?_
  refine runC ?_
  refine r_callp true (impl_RollNew 3 (.inr (.inl rfl))) ?_
  refine run ?_
  refine r_for o.length (fun i => [(4, .sl false 0 o.length 5 (rowT cmdC o)), (5, .ptr 2 [] 0), (6, .v (.int .i64 i))]) (fun i => lawG (rollAt o i)) (fun _ => True) [0, 1, 4] [2] trivial (Gc.of (hf := ?_) (hs := ?_)) (fun i hi _ => ?_) (fun _ => ?_)
  · (simp only [go_sem, ↓reduceIte, Nat.reduceEqDiff, Nat.reduceMul, Nat.reduceAdd, Nat.reduceSub, Nat.reduceLT, Nat.reduceGT, Nat.reduceLeDiff, Nat.reduceBEq, Int.reduceLT, Int.reduceLE, Int.reduceNe, Int.reduceEq, Int.reduceToNat, Int.reduceAdd, Int.reduceSub, Int.reduceMul, Int.reduceNeg, Nat.reducePow, Int.reducePow, Nat.reduceSubDiff, decide_true, decide_false, reduceCtorEq, or_self, or_false, false_or, or_true, true_or, if_false, gt_iff_lt, ge_iff_le, ne_eq, not_true_eq_false, not_false_eq_true, and_self, beq_self_eq_true, Bool.false_eq_true]; try (repeat (first | exact True.intro | exact Wk.refl _ | exact Wk.nilR _ _ _ | exact Wk.nil _ _ | exact Wk.dead _ | exact Wk.bT (by assumption) | exact Wk.bF (by assumption) | exact Wk.eqI (by omega) | exact WkS.refl _ | exact Wks.same _ | exact Wks.nil | exact WkS.nil | refine And.intro ?_ ?_ | refine Wk.aggs ?_ | refine Wk.tups ?_ | refine Wks.cons ?_ ?_ | refine WkS.cons (by first | exact fun _ => rfl | exact fun h => absurd h Bool.false_ne_true) ?_ ?_ ?_ | assumption | exact (fun h => h) | exact (fun h => absurd h Bool.false_ne_true) | intro _)))
  · rw [rollAt_0]
    dsimp only [lawG]
    simp only [go_sem, ↓reduceIte, Nat.reduceEqDiff, Nat.reduceMul, Nat.reduceAdd, Nat.reduceSub, Nat.reduceLT, Nat.reduceGT, Nat.reduceLeDiff, Nat.reduceBEq, Int.reduceLT, Int.reduceLE, Int.reduceNe, Int.reduceEq, Int.reduceToNat, Int.reduceAdd, Int.reduceSub, Int.reduceMul, Int.reduceNeg, Nat.reducePow, Int.reducePow, Nat.reduceSubDiff, decide_true, decide_false, reduceCtorEq, or_self, or_false, false_or, or_true, true_or, if_false, gt_iff_lt, ge_iff_le, ne_eq, not_true_eq_false, not_false_eq_true, and_self, beq_self_eq_true, Bool.false_eq_true]
    exact .cons (fun _ => rfl) (fun h => absurd h Bool.false_ne_true) (fun h => absurd h Bool.false_ne_true) (.cons (fun _ => rfl) (fun h => absurd h Bool.false_ne_true) (fun h => absurd h Bool.false_ne_true) (WkS.refl _))
  · have hp := rollAt_ok o i
    have hst := rollAt_s o hi
    have hof := rollAt_of o i (by omega)
    generalize rollAt o i = x at *
    have htt := tot_ok hp
    have hbb := bnd_tot (rels := x.rels) (order := x.order) (by omega)
    have hsp := spec_RollApply 1 1 x.of x.rels x.act x.order (nth o (i : Nat)).kind (nth o (i : Nat)).rel (nth o (i : Nat)).node (nth o (i : Nat)).size (nth o (i : Nat)).dig hbb (by omega)
    have him := impl_RollApply 1 1 x.of x.rels x.act x.order (nth o (i : Nat)).kind (nth o (i : Nat)).rel (nth o (i : Nat)).node (nth o (i : Nat)).size (nth o (i : Nat)).dig hbb (by omega)
    rw [show applyC x (nth o (i : Nat)) = applyP x.of x.rels x.act x.order (nth o (i : Nat)).kind (nth o (i : Nat)).rel (nth o (i : Nat)).node (nth o (i : Nat)).size (nth o (i : Nat)).dig from rfl] at hst
    have hcase := apply_case (k := (nth o (i : Nat)).kind) (r := (nth o (i : Nat)).rel) (n := (nth o (i : Nat)).node) (z := (nth o (i : Nat)).size) (d := (nth o (i : Nat)).dig) hp
    generalize applyP x.of x.rels x.act x.order (nth o (i : Nat)).kind (nth o (i : Nat)).rel (nth o (i : Nat)).node (nth o (i : Nat)).size (nth o (i : Nat)).dig = p at *
    dsimp only [rollT, rollS] at hsp him
    dsimp only [lawG]
    refine runS ?_
    refine r_any [(4, .sl false 0 o.length 5 (rowT cmdC o)), (5, .ptr 2 [] 0), (6, .v (.int .i64 i)), (7, .ptr 5 [] 0), (8, .v (.int .i64 p.2))] [⟨5, !x.rels.isEmpty, rowT relO x.rels⟩, ⟨1, !x.order.isEmpty, rowT i64C x.order⟩, ⟨0, true, [.v (.int .i64 x.of), rowR 5 0 x.rels, .v (.int .i64 x.act), rowR 1 1 x.order]⟩, ⟨5, !p.1.rels.isEmpty, rowT relO p.1.rels⟩, ⟨1, !p.1.order.isEmpty, rowT i64C p.1.order⟩, ⟨0, true, [.v (.int .i64 p.1.of), rowR 5 3 p.1.rels, .v (.int .i64 p.1.act), rowR 1 4 p.1.order]⟩] ?_ ?_
    rotate_left
    · refine a_swap 8 ?_
      refine a_swap 7 ?_
      refine a_swap 6 ?_
      refine a_two 5 ?_ ?_
      · refine any_lin ?_
        refine runC ?_
        refine r_callp true him ?_
        refine run ?_
        exact ⟨[0, 1, 2, 3, 4, 5], [], Gc.of⟩
      · refine any_lin ?_
        refine runC ?_
        refine r_callp true him ?_
        refine run ?_
        exact ⟨[0, 1, 2, 4, 5, 3], [], Gc.of⟩
    refine runS ?_
    refine r_any [(4, .sl false 0 o.length 5 (rowT cmdC o)), (5, .ptr 2 [] 0), (6, .v (.int .i64 i)), (7, .ptr 5 [] 0), (8, .v (.int .i64 p.2)), (9, .ptr 8 [] 0), (10, .v (.int .i64 p.2))] [⟨5, !x.rels.isEmpty, rowT relO x.rels⟩, ⟨1, !x.order.isEmpty, rowT i64C x.order⟩, ⟨0, true, [.v (.int .i64 x.of), rowR 5 0 x.rels, .v (.int .i64 x.act), rowR 1 1 x.order]⟩, ⟨5, !p.1.rels.isEmpty, rowT relO p.1.rels⟩, ⟨1, !p.1.order.isEmpty, rowT i64C p.1.order⟩, ⟨0, true, [.v (.int .i64 p.1.of), rowR 5 3 p.1.rels, .v (.int .i64 p.1.act), rowR 1 4 p.1.order]⟩, ⟨5, !p.1.rels.isEmpty, rowT relO p.1.rels⟩, ⟨1, !p.1.order.isEmpty, rowT i64C p.1.order⟩, ⟨0, true, [.v (.int .i64 p.1.of), rowR 5 6 p.1.rels, .v (.int .i64 p.1.act), rowR 1 7 p.1.order]⟩] ?_ ?_
    rotate_left
    · refine a_swap 8 ?_
      refine a_swap 7 ?_
      refine a_swap 6 ?_
      refine a_two 5 ?_ ?_
      · refine any_lin ?_
        refine runC ?_
        refine r_callp true hsp ?_
        refine run ?_
        exact ⟨[0, 1, 2, 3, 4, 5, 6, 7, 8], [], Gc.of⟩
      · refine any_lin ?_
        refine runC ?_
        refine r_callp true hsp ?_
        refine run ?_
        exact ⟨[0, 1, 2, 3, 4, 5, 7, 8, 6], [], Gc.of⟩
    refine run ?_
    refine r_ifd (fun h1 => ?_) (fun h1 => ?_)
    · rw [hst, if_neg (by omega)]
      refine run ?_
      exact ⟨[0, 1, 2], [], Gc.of, trivial⟩
    obtain ⟨hy, hyo, hya, hyr, hfind⟩ := hcase h1
    have htq := tot_ok hy
    have hbq := bnd_tot (rels := p.1.rels) (order := p.1.order) (by omega)
    obtain ⟨y, v⟩ := p
    dsimp only at *
    by_cases h0 : v = 0
    · subst h0
      rw [hst, if_pos rfl]
      refine run ?_
      refine r_ifd (fun h3 => ?_) (fun h3 => ?_)
      · exfalso
        rcases h3 with h3 | h3
        · omega
        · exact h3 hy
      refine run ?_
      refine r_ifd (fun h4 => ?_) (fun h4 => ?_)
      · obtain ⟨f1, f2, f3⟩ := hfind h4
        refine run ?_
        refine r_ifd (fun h5 => ?_) (fun h5 => ?_)
        · exfalso
          grind
        refine run ?_
        exact ⟨[3, 4, 2], [], Gc.of, trivial⟩
      · refine run ?_
        exact ⟨[3, 4, 2], [], Gc.of, trivial⟩
    · rw [hst, if_neg h0]
      have e := hyr h0
      subst e
      refine run ?_
      refine r_ifd (fun h3 => ?_) (fun h3 => ?_)
      · exfalso
        rcases h3 with h3 | h3
        · omega
        · exact h3 hy
      refine run ?_
      exact ⟨[3, 4, 2], [], Gc.of, trivial⟩
  · have hp := rollAt_ok o o.length
    have hof := rollAt_of o o.length (Nat.le_refl _)
    generalize rollAt o o.length = x at *
    have htt := tot_ok hp
    have hbb := bnd_tot (rels := x.rels) (order := x.order) (by omega)
    dsimp only [lawG]
    refine run ?_
    refine r_for 3 (fun n => [(5, .ptr 2 [] 0), (13, .v (.int .i64 n))]) (fun _ => [⟨5, !x.rels.isEmpty, rowT relO x.rels⟩, ⟨1, !x.order.isEmpty, rowT i64C x.order⟩, ⟨0, true, [.v (.int .i64 x.of), rowR 5 0 x.rels, .v (.int .i64 x.act), rowR 1 1 x.order]⟩]) (fun _ => True) [0, 1, 2] [] trivial Gc.of (fun n hn _ => ?_) (fun _ => ?_)
    · refine run ?_
      have hlk := lackR_len x.rels (n : Int)
      have hlr := rels_len (rels := x.rels) (order := x.order) (by omega)
      refine r_for (lackR x.rels (n : Int)).length (fun j => [(5, .ptr 2 [] 0), (13, .v (.int .i64 n)), (14, .sl false 0 (lackR x.rels (n : Int)).length 1 (rowT i64C (lackR x.rels (n : Int)))), (15, .v (.int .i64 j))]) (fun _ => [⟨5, !x.rels.isEmpty, rowT relO x.rels⟩, ⟨1, !x.order.isEmpty, rowT i64C x.order⟩, ⟨0, true, [.v (.int .i64 x.of), rowR 5 0 x.rels, .v (.int .i64 x.act), rowR 1 1 x.order]⟩]) (fun _ => True) [0, 1, 2] [] trivial Gc.of (fun j hj _ => ?_) (fun _ => ?_)
      · obtain ⟨k1, k2, k3, jj, hjj, k4⟩ := lack_law hp hj
        have hrl := (ready_len (rels := x.rels) (order := x.order) (by omega) (x := (jj : Int)) (by omega) (by omega)).1
        rw [← k4] at hrl
        refine runC ?_
        refine r_callc ?_ (hp := dr_still)
        refine runC ?_
        refine r_do ?_ (hp := dr_chainc)
        refine r_do0 ?_ (hp := dr_chainc)
        rw [decide_eq_true k1, k2]
        refine run ?_
        exact ⟨[0, 1, 2], [], Gc.of, trivial⟩
      · refine run ?_
        exact ⟨[0, 1, 2], [], Gc.of, trivial⟩
    · obtain ⟨of, rels, act, order⟩ := x
      have hact := hp.2.2.2.2
      rw [hp.2.2.2.1] at hact
      dsimp only at *
      by_cases hne : order = []
      · subst hne
        rw [show lastI [] = 0 from rfl] at hact
        subst hact
        refine run ?_
        exact r_end [] []
      · have hlo : 0 < (order.length : Int) := by have := List.length_pos_iff.2 hne; omega
        rw [lastI, if_pos hlo] at hact
        subst hact
        rw [rowR_ne 1 1 hne, isE hne]
        have hol2 : order.length ≤ 2000 := by
          have h3 := actL_len rels
          rw [hp.2.2.2.1] at h3
          have := hp.2.1
          omega
        have e : ((((order.length : Int) - 1).toNat : Nat) : Int) = (order.length : Int) - 1 := by omega
        refine run ?_
        refine r_end [] [] (hres := ?_)
        simp (disch := omega) only [go_sem, ↓reduceIte, Nat.reduceEqDiff, Nat.reduceMul, Nat.reduceAdd, Nat.reduceSub, Nat.reduceLT, Nat.reduceGT, Nat.reduceLeDiff, Nat.reduceBEq, Int.reduceLT, Int.reduceLE, Int.reduceNe, Int.reduceEq, Int.reduceToNat, Int.reduceAdd, Int.reduceSub, Int.reduceMul, Int.reduceNeg, Nat.reducePow, Int.reducePow, Nat.reduceSubDiff, decide_true, decide_false, reduceCtorEq, or_self, or_false, false_or, or_true, true_or, if_false, gt_iff_lt, ge_iff_le, ne_eq, not_true_eq_false, not_false_eq_true, and_self, beq_self_eq_true, Bool.false_eq_true, e]
        exact .refl _
instance (l : List Int) : Con Try.prog F.laws_FnRoll [.sl false 0 l.length 1 (rowT u8C l)] ((∀ x ∈ l, 0 ≤ x ∧ x < 256) ∧ l.length ≤ 140737488351232) (.v (.bool true)) [] := ⟨fun h => laws_FnRoll l h⟩

end Go.TL
