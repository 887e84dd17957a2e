/- Texts joined. No conditions but those that are written. -/
import Derived.Test.YthkahdjgkcccgaaJM6M9
import Derived.Test.YthkahdjgkcccgaaR0
/- Runs of commands, in plain words. No conditions. -/
namespace Go.TL
set_option linter.unusedSimpArgs false
open Go.Proofs Go.RowKit
attribute [local irreducible] wpOpsT wpT EndT Ex.seq Ex.block W

def applyC (r : RollV) (c : CmdV) : RollV × Int := applyP r.of r.rels r.act r.order c.kind c.rel c.node c.size c.dig
def runStep (s : RollV × List Int) (c : CmdV) : RollV × List Int := (if (applyC s.1 c).2 = 0 then (applyC s.1 c).1 else s.1, s.2 ++ [(applyC s.1 c).2])
def runSt (r : RollV) (l : List CmdV) : RollV × List Int := l.foldl runStep (r, [])
def runV (r : RollV) (l : List CmdV) : RollV × List Int := if rollP r.of r.rels r.act r.order ∧ (l.length : Int) ≤ 80 then runSt r l else (r, [])
theorem runSt_s (r : RollV) {l : List CmdV} {i : Nat} (hi : i < l.length) : runSt r (l.take (i + 1)) = runStep (runSt r (l.take i)) (nth l (i : Nat)) := by
  rw [take_nth hi, runSt, List.foldl_append]; rfl
theorem runSt_len (r : RollV) (l : List CmdV) : (runSt r l).2.length = l.length := by
  have key : ∀ (l : List CmdV) (s : RollV × List Int), (l.foldl runStep s).2.length = s.2.length + l.length := by
    intro l
    induction l with
    | nil => intro s; rfl
    | cons c l ih => intro s; rw [List.foldl_cons, ih]; simp [runStep]; omega
  have := key l (r, [])
  simp only [List.length_nil, Nat.zero_add] at this
  exact this

theorem sum_cons {α : Type} (f : α → Int) (x : α) (l : List α) : sumI f (x :: l) = f x + sumI f l := by simp [sumI]
theorem sum_ap {α : Type} (f : α → Int) (a b : List α) : sumI f (a ++ b) = sumI f a + sumI f b := by simp [sumI]
theorem sum_set {α : Type} [Inhabited α] (f : α → Int) : ∀ (l : List α) (i : Nat) (x : α), i < l.length → sumI f (l.set i x) = sumI f l - f (nth l (i : Nat)) + f x
  | [], i, x, h => by simp at h
  | y :: l, 0, x, _ => by
    rw [List.set_cons_zero, sum_cons, sum_cons, show nth (y :: l) ((0 : Nat) : Int) = y from rfl]; omega
  | y :: l, i + 1, x, h => by
    have := sum_set f l i x (by simpa using h)
    rw [List.set_cons_succ, sum_cons, sum_cons, this, show nth (y :: l) ((i + 1 : Nat) : Int) = nth l (i : Nat) by unfold nth; simp]
    omega
theorem putI_len (l : List Int) (x : Int) : (putI l x).length ≤ 2 * l.length + 1 := by
  have := putSt_len x l
  unfold putI
  split
  · omega
  · rw [List.length_append]; simp; omega
theorem nodes_5 {of : Int} {rels : List RelV} {act : Int} {order : List Int} (h : rollP of rels act order) {i : Nat} (hi : i < rels.length) : (nth rels (i : Nat)).ready.length ≤ 5 := by
  have h1 := (h.2.2.1 i hi).2.2.2.2.1
  have h2 := nodes_len h.1 h1
  have := h.1
  unfold ofP at this
  omega
theorem tot_apply (r : RollV) (c : CmdV) : totRoll (applyC r c).1.rels (applyC r c).1.order ≤ totRoll r.rels r.order + 40 := by
  unfold applyC applyP
  have hn := totRoll_nn r.rels r.order
  split
  case isFalse => simp only [totRoll, totRelS, totIS, sumI, List.map_nil, List.sum_nil, List.length_nil] at hn ⊢; omega
  rename_i h
  obtain ⟨h1, h2⟩ := h
  unfold applyR
  split
  · dsimp only; omega
  rename_i k1
  split
  · rename_i k2
    unfold cmdP at h2
    rw [if_neg k1, if_pos k2] at h2
    split
    · dsimp only; omega
    · split
      · dsimp only; omega
      · dsimp only
        simp only [totRoll, totRelS, sum_ap, List.length_append, List.length_cons, List.length_nil, sum_cons, totRelV, totRel, totIS] at hn ⊢
        simp only [sumI, List.map_nil, List.sum_nil, List.length_nil] at hn ⊢
        omega
  split
  · dsimp only; omega
  rename_i k3
  have hfb := findR_b r.rels c.rel
  obtain ⟨i, hi⟩ := Int.eq_ofNat_of_zero_le (show 0 ≤ findR r.rels c.rel by omega)
  rw [hi] at hfb ⊢
  have hil : i < r.rels.length := by omega
  have h5 := nodes_5 h1 hil
  have hp := putI_len (nth r.rels (i : Nat)).ready c.node
  rw [Int.toNat_natCast]
  split
  · dsimp only; omega
  split
  · dsimp only
    simp only [totRoll, totRelS, List.length_set, sum_set _ _ _ _ hil, totRelV, totRel, totIS] at hn ⊢
    omega
  split
  · split
    · dsimp only; omega
    · split
      · dsimp only; omega
      · dsimp only
        simp only [totRoll, totRelS, List.length_set, sum_set _ _ _ _ hil, totRelV, totRel, totIS, List.length_append, List.length_cons, List.length_nil] at hn ⊢
        omega
  split
  · dsimp only
    simp only [totRoll, totRelS, List.length_set, sum_set _ _ _ _ hil, totRelV, totRel, totIS] at hn ⊢
    omega
  · dsimp only; omega
theorem tot_run (r : RollV) (l : List CmdV) : totRoll (runSt r l).1.rels (runSt r l).1.order ≤ totRoll r.rels r.order + 40 * l.length := by
  have key : ∀ (l : List CmdV) (s : RollV × List Int), totRoll (l.foldl runStep s).1.rels (l.foldl runStep s).1.order ≤ totRoll s.1.rels s.1.order + 40 * l.length := by
    intro l
    induction l with
    | nil => intro s; simp
    | cons c l ih =>
      intro s
      rw [List.foldl_cons]
      have h1 := ih (runStep s c)
      have h2 : totRoll (runStep s c).1.rels (runStep s c).1.order ≤ totRoll s.1.rels s.1.order + 40 := by
        unfold runStep
        dsimp only
        split
        · exact tot_apply s.1 c
        · omega
      simp only [List.length_cons]
      omega
  exact key l (r, [])
theorem sum_bnd {α : Type} [Inhabited α] {f : α → Int} {b : Int} (hb : 0 ≤ b) : ∀ (l : List α), (∀ i, i < l.length → f (nth l (i : Nat)) ≤ b) → sumI f l ≤ b * l.length
  | [], _ => by simp [sumI]
  | x :: l, h => by
    have h1 := h 0 (by simp)
    have h2 := sum_bnd hb l fun i hi => by
      have := h (i + 1) (by simpa using hi)
      rwa [show nth (x :: l) ((i + 1 : Nat) : Int) = nth l (i : Nat) by unfold nth; simp] at this
    rw [show nth (x :: l) ((0 : Nat) : Int) = x from rfl] at h1
    rw [sum_cons, List.length_cons, Int.natCast_add, Int.mul_add]
    simp only [Int.cast_ofNat_Int, Int.mul_one]
    omega
theorem tot_ok {of : Int} {rels : List RelV} {act : Int} {order : List Int} (h : rollP of rels act order) : totRoll rels order ≤ 2000 := by
  have h1 := sum_bnd (f := totRelV) (b := 37) (by omega) rels fun i hi => by
    have h2 := h.2.2.1 i hi
    have h3 := nodes_5 h hi
    have h4 := h2.2.2.2.1
    simp only [totRelV, totRel, totIS]
    omega
  have h2 := h.2.1
  have h3 := actL_len rels
  rw [h.2.2.2.1] at h3
  simp only [totRoll, totRelS, totIS]
  omega
theorem bnd_tot {rels : List RelV} {order : List Int} (h : totRoll rels order ≤ 1048576) : bndRoll rels order := by
  have hn := sum_nn totRelV_nn rels
  have h6 : totIS order = order.length := rfl
  unfold totRoll totRelS at h
  refine ⟨⟨by omega, fun x hx => ?_⟩, ?_⟩
  · obtain ⟨i, hi, rfl⟩ := List.mem_iff_getElem.1 hx
    have h1 := sum_take totRelV hi
    have h2 := sum_le totRelV_nn rels (i + 1)
    have h3 := sum_nn totRelV_nn (rels.take i)
    rw [nth_nat hi] at h1
    have h4 : totRelV rels[i] ≤ 1048576 := by omega
    have h5 : totIS rels[i].ready = rels[i].ready.length := rfl
    unfold totRelV totRel at h4
    exact ⟨by omega, by show _ * 8 ≤ _; omega⟩
  · show _ * 8 ≤ _
    omega

end Go.TL

/- Runs of commands, by both sides. No conditions but those that are written. -/
namespace Go.TL
set_option linter.unusedSimpArgs false
open Go.Proofs Go.RowKit
attribute [local irreducible] wpOpsT wpT EndT Ex.seq Ex.block W

/-- The roots of a run: the struct of the roll, its rows; the codes. -/
def runG (P0 : Root) (s : RollV × List Int) : Store := [P0, ⟨0, true, [.v (.int .i64 0), .v (.slice none 0 0), .v (.int .i64 0), .v (.slice none 0 0)]⟩, ⟨1, true, rowT i64C s.2⟩, ⟨0, true, [.v (.int .i64 s.1.of), rowR 5 4 s.1.rels, .v (.int .i64 s.1.act), rowR 1 5 s.1.order]⟩, ⟨5, !s.1.rels.isEmpty, rowT relO s.1.rels⟩, ⟨1, !s.1.order.isEmpty, rowT i64C s.1.order⟩]

set_option linter.unusedSimpArgs false in
set_option maxHeartbeats 8000000 in
theorem spec_RollRun (k0 k1 k2 : Nat) (of : Int) (rels : List RelV) (act : Int) (order : List Int) (l : List CmdV) (hpre : totRoll rels order ≤ 1048576) (hl : l.length ≤ 1048576) :
    CallsT Try.prog [] F.spec_RollRun [.agg [.v (.int .i64 of), .sl false k0 rels.length 5 (rowT relC rels), .v (.int .i64 act), .sl false k1 order.length 1 (rowT i64C order)], .sl false k2 l.length 5 (rowT cmdC l)] (.tup [rollT (runV ⟨of, rels, act, order⟩ l).1, .ref 2 [] 0 (runV ⟨of, rels, act, order⟩ l).2.length]) (rollS (runV ⟨of, rels, act, order⟩ l).1 ++ [⟨1, true, rowT i64C (runV ⟨of, rels, act, order⟩ l).2⟩]) := by
  have hlr := rels_len hpre
  have hb := bnd_tot hpre
  refine fnT C.spec_RollRun ?_
  refine runC ?_
  refine r_callp true (spec_l7Copy 1 1 of rels act order hpre) ?_
  refine run ?_
  refine r_ifd (fun h => ?_) (fun h => ?_)
  · rw [show runV ⟨of, rels, act, order⟩ l = (⟨of, rels, act, order⟩, []) from if_neg (by grind)]
    dsimp only [rollT, rollS, List.cons_append, List.nil_append]
    refine run ?_
    refine r_end [3, 4, 2] [.sealR 4] (hres := by (simp only [go_sem, ↓reduceIte, Nat.reduceEqDiff, Nat.reduceMul, Nat.reduceAdd, Nat.reduceSub, Nat.reduceLT, Nat.reduceGT, Nat.reduceLeDiff, Nat.reduceBEq, Int.reduceLT, Int.reduceLE, Int.reduceNe, Int.reduceEq, Int.reduceToNat, Int.reduceAdd, Int.reduceSub, Int.reduceMul, Int.reduceNeg, Nat.reducePow, Int.reducePow, Nat.reduceSubDiff, decide_true, decide_false, reduceCtorEq, or_self, or_false, false_or, or_true, true_or, if_false, gt_iff_lt, ge_iff_le, ne_eq, not_true_eq_false, not_false_eq_true, and_self, beq_self_eq_true, Bool.false_eq_true]; try (repeat (first | exact True.intro | exact Wk.refl _ | exact Wk.nilR _ _ _ | exact Wk.nil _ _ | exact Wk.dead _ | exact Wk.bT (by assumption) | exact Wk.bF (by assumption) | exact Wk.eqI (by omega) | exact WkS.refl _ | exact Wks.same _ | exact Wks.nil | exact WkS.nil | refine And.intro ?_ ?_ | refine Wk.aggs ?_ | refine Wk.tups ?_ | refine Wks.cons ?_ ?_ | refine WkS.cons (by first | exact fun _ => rfl | exact fun h => absurd h Bool.false_ne_true) ?_ ?_ ?_ | assumption | exact (fun h => h) | exact (fun h => absurd h Bool.false_ne_true) | intro _))))
  have hok : rollP of rels act order ∧ (l.length : Int) ≤ 80 := by grind
  rw [show runV ⟨of, rels, act, order⟩ l = runSt ⟨of, rels, act, order⟩ l from if_pos hok]
  have htot := tot_ok hok.1
  refine run ?_
  refine r_for l.length (fun i => [(1, .sl false k2 l.length 5 (rowT cmdC l)), (2, .ptr 0 [] 0), (4, .ptr 1 [] 0), (6, .ref 2 [] 0 (runSt ⟨of, rels, act, order⟩ (l.take i)).2.length), (7, .ptr 3 [] 0), (8, .v (.int .i64 i))]) (fun i => runG ⟨0, true, [.v (.int .i64 of), .sl false k0 rels.length 5 (rowT relC rels), .v (.int .i64 act), .sl false k1 order.length 1 (rowT i64C order)]⟩ (runSt ⟨of, rels, act, order⟩ (l.take i))) (fun _ => True) [0, 1, 2, 5, 3, 4] [.sealR 4] trivial (Gc.of (hf := ?_) (hs := ?_)) (fun i hi _ => ?_) (fun _ => ?_)
  · simp only [List.take_zero, runSt, List.foldl_nil]
    (simp only [go_sem, ↓reduceIte, Nat.reduceEqDiff, Nat.reduceMul, Nat.reduceAdd, Nat.reduceSub, Nat.reduceLT, Nat.reduceGT, Nat.reduceLeDiff, Nat.reduceBEq, Int.reduceLT, Int.reduceLE, Int.reduceNe, Int.reduceEq, Int.reduceToNat, Int.reduceAdd, Int.reduceSub, Int.reduceMul, Int.reduceNeg, Nat.reducePow, Int.reducePow, Nat.reduceSubDiff, decide_true, decide_false, reduceCtorEq, or_self, or_false, false_or, or_true, true_or, if_false, gt_iff_lt, ge_iff_le, ne_eq, not_true_eq_false, not_false_eq_true, and_self, beq_self_eq_true, Bool.false_eq_true]; try (repeat (first | exact True.intro | exact Wk.refl _ | exact Wk.nilR _ _ _ | exact Wk.nil _ _ | exact Wk.dead _ | exact Wk.bT (by assumption) | exact Wk.bF (by assumption) | exact Wk.eqI (by omega) | exact WkS.refl _ | exact Wks.same _ | exact Wks.nil | exact WkS.nil | refine And.intro ?_ ?_ | refine Wk.aggs ?_ | refine Wk.tups ?_ | refine Wks.cons ?_ ?_ | refine WkS.cons (by first | exact fun _ => rfl | exact fun h => absurd h Bool.false_ne_true) ?_ ?_ ?_ | assumption | exact (fun h => h) | exact (fun h => absurd h Bool.false_ne_true) | intro _)))
  · simp only [List.take_zero, runSt, List.foldl_nil, runG]
    (simp only [go_sem, ↓reduceIte, Nat.reduceEqDiff, Nat.reduceMul, Nat.reduceAdd, Nat.reduceSub, Nat.reduceLT, Nat.reduceGT, Nat.reduceLeDiff, Nat.reduceBEq, Int.reduceLT, Int.reduceLE, Int.reduceNe, Int.reduceEq, Int.reduceToNat, Int.reduceAdd, Int.reduceSub, Int.reduceMul, Int.reduceNeg, Nat.reducePow, Int.reducePow, Nat.reduceSubDiff, decide_true, decide_false, reduceCtorEq, or_self, or_false, false_or, or_true, true_or, if_false, gt_iff_lt, ge_iff_le, ne_eq, not_true_eq_false, not_false_eq_true, and_self, beq_self_eq_true, Bool.false_eq_true]; try (repeat (first | exact True.intro | exact Wk.refl _ | exact Wk.nilR _ _ _ | exact Wk.nil _ _ | exact Wk.dead _ | exact Wk.bT (by assumption) | exact Wk.bF (by assumption) | exact Wk.eqI (by omega) | exact WkS.refl _ | exact Wks.same _ | exact Wks.nil | exact WkS.nil | refine And.intro ?_ ?_ | refine Wk.aggs ?_ | refine Wk.tups ?_ | refine Wks.cons ?_ ?_ | refine WkS.cons (by first | exact fun _ => rfl | exact fun h => absurd h Bool.false_ne_true) ?_ ?_ ?_ | assumption | exact (fun h => h) | exact (fun h => absurd h Bool.false_ne_true) | intro _)))
  · have hst := runSt_s ⟨of, rels, act, order⟩ hi
    have htt := tot_run ⟨of, rels, act, order⟩ (l.take i)
    have hlt : (l.take i).length = i := by rw [List.length_take]; omega
    have hcl := runSt_len ⟨of, rels, act, order⟩ (l.take i)
    dsimp only at htt
    generalize runSt ⟨of, rels, act, order⟩ (l.take i) = s at *
    have hcall := spec_RollApply 1 1 s.1.of s.1.rels s.1.act s.1.order (nth l (i : Nat)).kind (nth l (i : Nat)).rel (nth l (i : Nat)).node (nth l (i : Nat)).size (nth l (i : Nat)).dig (bnd_tot (by omega)) (by omega)
    have hstep : runStep s (nth l (i : Nat)) = (if (applyC s.1 (nth l (i : Nat))).2 = 0 then (applyC s.1 (nth l (i : Nat))).1 else s.1, s.2 ++ [(applyC s.1 (nth l (i : Nat))).2]) := rfl
    have hap : applyP s.1.of s.1.rels s.1.act s.1.order (nth l (i : Nat)).kind (nth l (i : Nat)).rel (nth l (i : Nat)).node (nth l (i : Nat)).size (nth l (i : Nat)).dig = applyC s.1 (nth l (i : Nat)) := rfl
    rw [hap] at hcall
    rw [hst, hstep]
    clear hst hstep hap
    generalize applyC s.1 (nth l (i : Nat)) = p at *
    dsimp only [rollT, rollS] at hcall
    dsimp only [runG]
    refine runS ?_
    refine r_any [(1, .sl false k2 l.length 5 (rowT cmdC l)), (2, .ptr 0 [] 0), (4, .ptr 1 [] 0), (6, .ref 2 [] 0 s.2.length), (7, .ptr 3 [] 0), (8, .v (.int .i64 i)), (9, .ptr 6 [] 0), (10, .v (.int .i64 p.2))] [⟨0, true, [.v (.int .i64 of), .sl false k0 rels.length 5 (rowT relC rels), .v (.int .i64 act), .sl false k1 order.length 1 (rowT i64C order)]⟩, ⟨0, true, [.v (.int .i64 0), .v (.slice none 0 0), .v (.int .i64 0), .v (.slice none 0 0)]⟩, ⟨1, true, rowT i64C s.2⟩, ⟨0, true, [.v (.int .i64 s.1.of), rowR 5 4 s.1.rels, .v (.int .i64 s.1.act), rowR 1 5 s.1.order]⟩, ⟨5, !s.1.rels.isEmpty, rowT relO s.1.rels⟩, ⟨1, !s.1.order.isEmpty, rowT i64C s.1.order⟩, ⟨0, true, [.v (.int .i64 p.1.of), rowR 5 7 p.1.rels, .v (.int .i64 p.1.act), rowR 1 8 p.1.order]⟩, ⟨5, !p.1.rels.isEmpty, rowT relO p.1.rels⟩, ⟨1, !p.1.order.isEmpty, rowT i64C p.1.order⟩] ?_ ?_
    rotate_left
    · refine a_swap 8 ?_
      refine a_swap 7 ?_
      refine a_swap 6 ?_
      refine a_two 5 ?_ ?_
      · refine any_lin ?_
        refine runC ?_
        refine r_callp true hcall ?_
        refine run ?_
        exact ⟨[0, 1, 2, 3, 4, 5, 8, 6, 7], [], Gc.of⟩
      · refine any_lin ?_
        refine runC ?_
        refine r_callp true hcall ?_
        refine run ?_
        exact ⟨[0, 1, 2, 3, 4, 5, 6, 7, 8], [], Gc.of⟩
    refine run ?_
    refine r_ifd (fun h3 => ?_) (fun h3 => ?_)
    · rw [if_pos h3]
      refine run ?_
      exact ⟨[0, 1, 10, 3, 7, 8], [], Gc.of, trivial⟩
    · rw [if_neg h3]
      refine run ?_
      exact ⟨[0, 1, 10, 3, 4, 5], [], Gc.of, trivial⟩
  · rw [List.take_length]
    dsimp only [rollT, rollS, runG, List.cons_append, List.nil_append]
    refine run ?_
    refine r_end [4, 5, 2] [] (hres := by (simp only [go_sem, ↓reduceIte, Nat.reduceEqDiff, Nat.reduceMul, Nat.reduceAdd, Nat.reduceSub, Nat.reduceLT, Nat.reduceGT, Nat.reduceLeDiff, Nat.reduceBEq, Int.reduceLT, Int.reduceLE, Int.reduceNe, Int.reduceEq, Int.reduceToNat, Int.reduceAdd, Int.reduceSub, Int.reduceMul, Int.reduceNeg, Nat.reducePow, Int.reducePow, Nat.reduceSubDiff, decide_true, decide_false, reduceCtorEq, or_self, or_false, false_or, or_true, true_or, if_false, gt_iff_lt, ge_iff_le, ne_eq, not_true_eq_false, not_false_eq_true, and_self, beq_self_eq_true, Bool.false_eq_true]; try (repeat (first | exact True.intro | exact Wk.refl _ | exact Wk.nilR _ _ _ | exact Wk.nil _ _ | exact Wk.dead _ | exact Wk.bT (by assumption) | exact Wk.bF (by assumption) | exact Wk.eqI (by omega) | exact WkS.refl _ | exact Wks.same _ | exact Wks.nil | exact WkS.nil | refine And.intro ?_ ?_ | refine Wk.aggs ?_ | refine Wk.tups ?_ | refine Wks.cons ?_ ?_ | refine WkS.cons (by first | exact fun _ => rfl | exact fun h => absurd h Bool.false_ne_true) ?_ ?_ ?_ | assumption | exact (fun h => h) | exact (fun h => absurd h Bool.false_ne_true) | intro _))))

set_option linter.unusedSimpArgs false in
set_option maxHeartbeats 8000000 in
theorem impl_RollRun (k0 k1 k2 : Nat) (of : Int) (rels : List RelV) (act : Int) (order : List Int) (l : List CmdV) (hpre : totRoll rels order ≤ 1048576) (hl : l.length ≤ 1048576) :
    CallsT Try.prog [] F.impl_RollRun [.agg [.v (.int .i64 of), .sl false k0 rels.length 5 (rowT relC rels), .v (.int .i64 act), .sl false k1 order.length 1 (rowT i64C order)], .sl false k2 l.length 5 (rowT cmdC l)] (.tup [rollT (runV ⟨of, rels, act, order⟩ l).1, .ref 2 [] 0 (runV ⟨of, rels, act, order⟩ l).2.length]) (rollS (runV ⟨of, rels, act, order⟩ l).1 ++ [⟨1, true, rowT i64C (runV ⟨of, rels, act, order⟩ l).2⟩]) := by
  have hlr := rels_len hpre
  have hb := bnd_tot hpre
  refine fnT C.impl_RollRun ?_
  refine runC ?_
  refine r_callp true (impl_copyRoll 1 1 of rels act order hpre) ?_
  refine run ?_
  refine r_ifd (fun h => ?_) (fun h => ?_)
  · rw [show runV ⟨of, rels, act, order⟩ l = (⟨of, rels, act, order⟩, []) from if_neg (by grind)]
    dsimp only [rollT, rollS, List.cons_append, List.nil_append]
    refine run ?_
    refine r_end [2, 3, 5] [.sealR 3] (hs := ?_) (hres := by (simp only [go_sem, ↓reduceIte, Nat.reduceEqDiff, Nat.reduceMul, Nat.reduceAdd, Nat.reduceSub, Nat.reduceLT, Nat.reduceGT, Nat.reduceLeDiff, Nat.reduceBEq, Int.reduceLT, Int.reduceLE, Int.reduceNe, Int.reduceEq, Int.reduceToNat, Int.reduceAdd, Int.reduceSub, Int.reduceMul, Int.reduceNeg, Nat.reducePow, Int.reducePow, Nat.reduceSubDiff, decide_true, decide_false, reduceCtorEq, or_self, or_false, false_or, or_true, true_or, if_false, gt_iff_lt, ge_iff_le, ne_eq, not_true_eq_false, not_false_eq_true, and_self, beq_self_eq_true, Bool.false_eq_true]; try (repeat (first | exact True.intro | exact Wk.refl _ | exact Wk.nilR _ _ _ | exact Wk.nil _ _ | exact Wk.dead _ | exact Wk.bT (by assumption) | exact Wk.bF (by assumption) | exact Wk.eqI (by omega) | exact WkS.refl _ | exact Wks.same _ | exact Wks.nil | exact WkS.nil | refine And.intro ?_ ?_ | refine Wk.aggs ?_ | refine Wk.tups ?_ | refine Wks.cons ?_ ?_ | refine WkS.cons (by first | exact fun _ => rfl | exact fun h => absurd h Bool.false_ne_true) ?_ ?_ ?_ | assumption | exact (fun h => h) | exact (fun h => absurd h Bool.false_ne_true) | intro _))))
    simp (disch := omega) only [go_sem, ↓reduceIte, Nat.reduceEqDiff, Nat.reduceMul, Nat.reduceAdd, Nat.reduceSub, Nat.reduceLT, Nat.reduceGT, Nat.reduceLeDiff, Nat.reduceBEq, Int.reduceLT, Int.reduceLE, Int.reduceNe, Int.reduceEq, Int.reduceToNat, Int.reduceAdd, Int.reduceSub, Int.reduceMul, Int.reduceNeg, Nat.reducePow, Int.reducePow, Nat.reduceSubDiff, decide_true, decide_false, reduceCtorEq, or_self, or_false, false_or, or_true, true_or, if_false, gt_iff_lt, ge_iff_le, ne_eq, not_true_eq_false, not_false_eq_true, and_self, beq_self_eq_true, Bool.false_eq_true]
    exact .cons (fun _ => rfl) (fun h => h) (fun _ => wk_rels _) (WkS.refl _)
  have hok : rollP of rels act order ∧ (l.length : Int) ≤ 80 := by grind
  rw [show runV ⟨of, rels, act, order⟩ l = runSt ⟨of, rels, act, order⟩ l from if_pos hok]
  have htot := tot_ok hok.1
  refine run ?_
  refine r_for l.length (fun i => [(4, .ptr 1 [] 0), (6, .ptr 3 [] 0), (7, .ref 2 [] 0 (runSt ⟨of, rels, act, order⟩ (l.take i)).2.length), (25, .sl false k2 l.length 5 (rowT cmdC l)), (26, .v (.int .i64 l.length)), (27, .v (.int .i64 i))]) (fun i => runG ⟨0, true, [.v (.int .i64 of), .sl false k0 rels.length 5 (rowT relC rels), .v (.int .i64 act), .sl false k1 order.length 1 (rowT i64C order)]⟩ (runSt ⟨of, rels, act, order⟩ (l.take i))) (fun _ => True) [0, 1, 5, 4, 2, 3] [.sealR 3] trivial (Gc.of (hf := ?_) (hs := ?_)) (fun i hi _ => ?_) (fun _ => ?_)
  · simp only [List.take_zero, runSt, List.foldl_nil]
    (simp only [go_sem, ↓reduceIte, Nat.reduceEqDiff, Nat.reduceMul, Nat.reduceAdd, Nat.reduceSub, Nat.reduceLT, Nat.reduceGT, Nat.reduceLeDiff, Nat.reduceBEq, Int.reduceLT, Int.reduceLE, Int.reduceNe, Int.reduceEq, Int.reduceToNat, Int.reduceAdd, Int.reduceSub, Int.reduceMul, Int.reduceNeg, Nat.reducePow, Int.reducePow, Nat.reduceSubDiff, decide_true, decide_false, reduceCtorEq, or_self, or_false, false_or, or_true, true_or, if_false, gt_iff_lt, ge_iff_le, ne_eq, not_true_eq_false, not_false_eq_true, and_self, beq_self_eq_true, Bool.false_eq_true]; try (repeat (first | exact True.intro | exact Wk.refl _ | exact Wk.nilR _ _ _ | exact Wk.nil _ _ | exact Wk.dead _ | exact Wk.bT (by assumption) | exact Wk.bF (by assumption) | exact Wk.eqI (by omega) | exact WkS.refl _ | exact Wks.same _ | exact Wks.nil | exact WkS.nil | refine And.intro ?_ ?_ | refine Wk.aggs ?_ | refine Wk.tups ?_ | refine Wks.cons ?_ ?_ | refine WkS.cons (by first | exact fun _ => rfl | exact fun h => absurd h Bool.false_ne_true) ?_ ?_ ?_ | assumption | exact (fun h => h) | exact (fun h => absurd h Bool.false_ne_true) | intro _)))
  · simp only [List.take_zero, runSt, List.foldl_nil, runG]
    simp only [go_sem, ↓reduceIte, Nat.reduceEqDiff, Nat.reduceMul, Nat.reduceAdd, Nat.reduceSub, Nat.reduceLT, Nat.reduceGT, Nat.reduceLeDiff, Nat.reduceBEq, Int.reduceLT, Int.reduceLE, Int.reduceNe, Int.reduceEq, Int.reduceToNat, Int.reduceAdd, Int.reduceSub, Int.reduceMul, Int.reduceNeg, Nat.reducePow, Int.reducePow, Nat.reduceSubDiff, decide_true, decide_false, reduceCtorEq, or_self, or_false, false_or, or_true, true_or, if_false, gt_iff_lt, ge_iff_le, ne_eq, not_true_eq_false, not_false_eq_true, and_self, beq_self_eq_true, Bool.false_eq_true]
    exact .cons (fun _ => rfl) (fun h => h) (fun _ => .same _) (.cons (fun _ => rfl) (fun h => h) (fun _ => .same _) (.cons (fun _ => rfl) (fun h => h) (fun _ => .same _) (.cons (fun _ => rfl) (fun h => h) (fun _ => .cons (.refl _) (.cons (Wk.nilR _ _ _) (.same _))) (.cons (fun _ => rfl) (fun h => h) (fun _ => wk_rels _) (WkS.refl _)))))
  · have hst := runSt_s ⟨of, rels, act, order⟩ hi
    have htt := tot_run ⟨of, rels, act, order⟩ (l.take i)
    have hlt : (l.take i).length = i := by rw [List.length_take]; omega
    have hcl := runSt_len ⟨of, rels, act, order⟩ (l.take i)
    dsimp only at htt
    generalize runSt ⟨of, rels, act, order⟩ (l.take i) = s at *
    have hcall := impl_RollApply 1 1 s.1.of s.1.rels s.1.act s.1.order (nth l (i : Nat)).kind (nth l (i : Nat)).rel (nth l (i : Nat)).node (nth l (i : Nat)).size (nth l (i : Nat)).dig (bnd_tot (by omega)) (by omega)
    have hstep : runStep s (nth l (i : Nat)) = (if (applyC s.1 (nth l (i : Nat))).2 = 0 then (applyC s.1 (nth l (i : Nat))).1 else s.1, s.2 ++ [(applyC s.1 (nth l (i : Nat))).2]) := rfl
    have hap : applyP s.1.of s.1.rels s.1.act s.1.order (nth l (i : Nat)).kind (nth l (i : Nat)).rel (nth l (i : Nat)).node (nth l (i : Nat)).size (nth l (i : Nat)).dig = applyC s.1 (nth l (i : Nat)) := rfl
    rw [hap] at hcall
    rw [hst, hstep]
    clear hst hstep hap
    generalize applyC s.1 (nth l (i : Nat)) = p at *
    dsimp only [rollT, rollS] at hcall
    dsimp only [runG]
    refine runC ?_
    refine r_callp true hcall ?_
    refine run ?_
    refine r_ifd (fun h3 => ?_) (fun h3 => ?_)
    · rw [if_pos h3]
      refine run ?_
      exact ⟨[0, 1, 11, 3, 7, 8], [], Gc.of, trivial⟩
    · rw [if_neg h3]
      refine run ?_
      exact ⟨[0, 1, 11, 3, 4, 5], [], Gc.of, trivial⟩
  · rw [List.take_length]
    dsimp only [rollT, rollS, runG, List.cons_append, List.nil_append]
    refine run ?_
    refine r_end [4, 5, 2] [] (hres := by (simp only [go_sem, ↓reduceIte, Nat.reduceEqDiff, Nat.reduceMul, Nat.reduceAdd, Nat.reduceSub, Nat.reduceLT, Nat.reduceGT, Nat.reduceLeDiff, Nat.reduceBEq, Int.reduceLT, Int.reduceLE, Int.reduceNe, Int.reduceEq, Int.reduceToNat, Int.reduceAdd, Int.reduceSub, Int.reduceMul, Int.reduceNeg, Nat.reducePow, Int.reducePow, Nat.reduceSubDiff, decide_true, decide_false, reduceCtorEq, or_self, or_false, false_or, or_true, true_or, if_false, gt_iff_lt, ge_iff_le, ne_eq, not_true_eq_false, not_false_eq_true, and_self, beq_self_eq_true, Bool.false_eq_true]; try (repeat (first | exact True.intro | exact Wk.refl _ | exact Wk.nilR _ _ _ | exact Wk.nil _ _ | exact Wk.dead _ | exact Wk.bT (by assumption) | exact Wk.bF (by assumption) | exact Wk.eqI (by omega) | exact WkS.refl _ | exact Wks.same _ | exact Wks.nil | exact WkS.nil | refine And.intro ?_ ?_ | refine Wk.aggs ?_ | refine Wk.tups ?_ | refine Wks.cons ?_ ?_ | refine WkS.cons (by first | exact fun _ => rfl | exact fun h => absurd h Bool.false_ne_true) ?_ ?_ ?_ | assumption | exact (fun h => h) | exact (fun h => absurd h Bool.false_ne_true) | intro _))))

end Go.TL
