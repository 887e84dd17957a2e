/- Rows of commands of one's own: made, marked. No conditions but those that are written. -/
import Derived.Test.YthkahdjgkcccgaaE4
import Derived.Test.YthkahdjgkcccgaaM1
namespace Go.TL
set_option linter.unusedSimpArgs false
open Go.Proofs Go.RowKit
attribute [local irreducible] wpOpsT wpT EndT Ex.seq Ex.block W

theorem toCmdSO (k : Nat) (l : List CmdV) (hpre : bndCmdS l) : CallsT Try.prog [] F.laws_toCmdS [.sl false k l.length 5 (rowT cmdC l)] (.ref 0 [] 0 l.length) [⟨5, true, rowT cmdC l⟩] := by
  obtain ⟨hb1, hb2⟩ := hpre
  refine fnT C.laws_toCmdS ?_
  refine run ?_
  rw [List.length_replicate]
  refine r_for l.length (fun i => [(0, .sl false k l.length 5 (rowT cmdC l)), (3, .ref 0 [] 0 l.length), (4, .v (.int .i64 i))]) (fun i => [⟨5, true, rowT cmdC (l.take i ++ (List.replicate l.length default).drop i)⟩]) (fun _ => True) [0] [] trivial Gc.of (fun i hi _ => ?_) (fun _ => ?_)
  · have hs1 : bndCmd (nth l i).dig := hb2 _ (nth_mem hi)
    refine run ?_
    refine r_sto (enc := cmdC) _ i (nth l i) ?_
    rw [set_mix hi (by simp)]
    refine run ?_
    exact ⟨[0], [], Gc.of, trivial⟩
  · rw [List.take_length, List.drop_of_length_le (by simp), List.append_nil]
    refine run ?_
    exact r_end [0] []

/-- The commands that are written, from k on. -/
def markCmd1 (k : Int) : CmdV := ⟨k, k + 1, k + 1 + 1, k + 1 + 1 + 1, mT (k + 1 + 1 + 1 + 1)⟩
def marksCmd (k : Int) (n : Nat) : List CmdV := (List.range n).map fun (i : Nat) => markCmd1 (k + 5 * (i : Int))
theorem marksCmd_len (k : Int) (n : Nat) : (marksCmd k n).length = n := by simp [marksCmd]
theorem marksCmd_s (k : Int) (n : Nat) : marksCmd k (n + 1) = marksCmd k n ++ [markCmd1 (k + 5 * (n : Int))] := by simp [marksCmd, List.range_succ]

set_option linter.unusedSimpArgs false in
theorem markCmdS1 (l : List CmdV) (k : Int) (hk : 0 < k) (hk2 : k + 5 * l.length ≤ 100000000) : CallsT Try.prog [⟨5, true, rowT cmdC l⟩] F.laws_markCmdS [.ref 0 [] 0 l.length, .v (.int .i64 k)] (.v (.int .i64 (k + 5 * l.length))) [⟨5, true, rowT cmdC (marksCmd k l.length)⟩] := by
  refine fnT C.laws_markCmdS ?_
  refine run ?_
  refine r_for l.length (fun i => [(0, .ref 0 [] 0 l.length), (1, .v (.int .i64 (k + 5 * (i : Int)))), (5, .v (.int .i64 i))]) (fun i => [⟨5, true, rowT cmdC (marksCmd k i) ++ rowT cmdC (l.drop i)⟩]) (fun _ => True) [0] [] trivial (Gc.of (hs := by simp only [marksCmd, List.range_zero, List.map_nil, rowT_nil, List.nil_append, List.drop_zero, List.append_nil]; (simp (disch := omega) only [go_sem, ↓reduceIte, Nat.reduceEqDiff, Nat.reduceMul, Nat.reduceAdd, Nat.reduceSub, Nat.reduceLT, Nat.reduceGT, Nat.reduceLeDiff, Nat.reduceBEq, Int.reduceLT, Int.reduceLE, Int.reduceNe, Int.reduceEq, Int.reduceToNat, Int.reduceAdd, Int.reduceSub, Int.reduceMul, Int.reduceNeg, Nat.reducePow, Int.reducePow, Nat.reduceSubDiff, decide_true, decide_false, reduceCtorEq, or_self, or_false, false_or, or_true, true_or, if_false, gt_iff_lt, ge_iff_le, ne_eq, not_true_eq_false, not_false_eq_true, and_self, beq_self_eq_true, Bool.false_eq_true, List.append_assoc]; exact WkS.refl _))) (fun i hi _ => ?_) (fun _ => ?_)
  · have hml := marksCmd_len k i
    rw [List.drop_eq_getElem_cons hi, rowT_cons, ← nth_nat hi]
    dsimp only [cmdC, List.cons_append, List.nil_append]
    have hend : rowT cmdC (marksCmd k (i + 1)) = rowT cmdC (marksCmd k i) ++ cmdC (markCmd1 (k + 5 * (i : Int))) := by
      rw [marksCmd_s, rowT_append, rowT_1]
    refine run ?_
    refine r_stw ?_
    refine run ?_
    refine r_stw ?_
    refine run ?_
    refine r_stw ?_
    refine run ?_
    refine r_stw ?_
    refine run ?_
    refine r_stw ?_
    refine run ?_
    refine ⟨[0], [], Gc.of (hs := ?_), trivial⟩
    rw [hend]
    simp only [markCmd1, cmdC]
    (simp (disch := omega) only [go_sem, ↓reduceIte, Nat.reduceEqDiff, Nat.reduceMul, Nat.reduceAdd, Nat.reduceSub, Nat.reduceLT, Nat.reduceGT, Nat.reduceLeDiff, Nat.reduceBEq, Int.reduceLT, Int.reduceLE, Int.reduceNe, Int.reduceEq, Int.reduceToNat, Int.reduceAdd, Int.reduceSub, Int.reduceMul, Int.reduceNeg, Nat.reducePow, Int.reducePow, Nat.reduceSubDiff, decide_true, decide_false, reduceCtorEq, or_self, or_false, false_or, or_true, true_or, if_false, gt_iff_lt, ge_iff_le, ne_eq, not_true_eq_false, not_false_eq_true, and_self, beq_self_eq_true, Bool.false_eq_true, List.append_assoc]; exact WkS.refl _)
  · rw [List.drop_of_length_le (Nat.le_refl _), rowT_nil, List.append_nil]
    refine run ?_
    exact r_end [0] []

end Go.TL
