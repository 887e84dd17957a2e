/- New fleets, by both sides. No conditions but those that are written. -/
import Derived.Test.YthkahdjgkcccgaaW0
namespace Go.TL
set_option linter.unusedSimpArgs false
open Go.Proofs Go.RowKit
attribute [local irreducible] wpOpsT wpT EndT Ex.seq Ex.block W

/-- A member that has nothing yet. -/
structure EmV where
  up : Bool
  room : Int
  id : Int
  of : Int
  role : Int
  commit : Int
  term : Int
  vote : Int
  applied : Int
  rof : Int
  act : Int
instance : Inhabited EmV := ⟨⟨false, 0, 0, 0, 0, 0, 0, 0, 0, 0, 0⟩⟩
def emC (x : EmV) : List T := [.v (.bool (decide (x.up = true))), .v (.int .i64 x.room), .sl false 0 0 3 [], .v (.int .i64 x.id), .v (.int .i64 x.of), .v (.int .i64 x.role), .v (.int .i64 x.commit), .v (.int .i64 x.term), .v (.int .i64 x.vote), .sl false 0 0 6 [], .sl false 0 0 1 [], .sl false 0 0 1 [], .sl false 0 0 1 [], .v (.int .i64 x.applied), .v (.int .i64 x.rof), .sl false 0 0 5 [], .v (.int .i64 x.act), .sl false 0 0 1 [], .sl false 0 0 4 []]
instance : RowE emC 19 := ⟨⟨fun _ => rfl, fun _ => rfl⟩⟩
instance : RowF emC := ⟨fun _ => rfl⟩
attribute [go_sem] emC
def emM (x : EmV) : MemberV := ⟨x.up, ⟨x.room, []⟩, ⟨x.id, x.of, x.role, x.commit, ⟨x.term, x.vote, []⟩, [], [], []⟩, x.applied, ⟨x.rof, [], x.act, []⟩, []⟩
theorem em_rows : ∀ l : List EmV, rowT memberC (l.map emM) = rowT emC l
  | [] => rfl
  | x :: l => by rw [List.map_cons, rowT_cons, rowT_cons, em_rows l]; rfl

def emN (of : Int) (i : Nat) : EmV := ⟨true, 30000, i, of, 1, 0, 0, 0, 0, of, 0⟩
def newE (of : Int) (n : Nat) : List EmV := (List.range n).map (emN of)
theorem newE_len (of : Int) (n : Nat) : (newE of n).length = n := by simp [newE]
theorem newE_s (of : Int) (n : Nat) : newE of (n + 1) = newE of n ++ [emN of n] := by simp [newE, List.range_succ]

theorem wk_em (of : Int) (i : Nat) : Wks [.v (.bool true), .v (.int .i64 30000), .v (.slice none 0 0), .v (.int .i64 i), .v (.int .i64 of), .v (.int .i64 1), .v (.int .i64 0), .v (.int .i64 0), .v (.int .i64 0), .sl false 0 0 6 [], .sl false 0 0 1 [], .sl false 0 0 1 [], .sl false 0 0 1 [], .v (.int .i64 0), .v (.int .i64 of), .sl false 0 0 5 [], .v (.int .i64 0), .sl false 0 0 1 [], .v (.slice none 0 0)] (emC (emN of i)) :=
  .cons (.refl _) (.cons (.refl _) (.cons (.nil _ _) (.cons (.refl _) (.cons (.refl _) (.cons (.refl _) (.cons (.refl _) (.cons (.refl _) (.cons (.refl _) (.cons (.refl _) (.cons (.refl _) (.cons (.refl _) (.cons (.refl _) (.cons (.refl _) (.cons (.refl _) (.cons (.refl _) (.cons (.refl _) (.cons (.refl _) (.cons (.nil _ _) .nil))))))))))))))))))
theorem Wks.tailE (a : List T) {b c : List T} (h : Wks b c) : Wks (a ++ b) (a ++ c) := by
  induction a with
  | nil => exact h
  | cons x a ih => exact .cons (.refl _) ih

/-- The fleet that grows: its struct, its row. -/
def newG (of : Int) : Nat → Store
  | 0 => [⟨0, true, [.v (.int .i64 of), .v (.slice none 0 0), .v (.slice none 0 0)]⟩]
  | i + 1 => [⟨0, true, [.v (.int .i64 of), .ref 2 [] 0 (i + 1), .v (.slice none 0 0)]⟩, ⟨19, true, rowT emC (newE of (i + 1))⟩]

set_option linter.unusedSimpArgs false in
set_option maxHeartbeats 4000000 in
theorem spec_FleetNewO (of : Int) (ho : ofP of) : CallsT Try.prog [] F.spec_FleetNew [.v (.int .i64 of)] (.agg [.v (.int .i64 of), .ref 0 [] 0 of.toNat, .v (.slice none 0 0)]) [⟨19, true, rowT emC (newE of of.toNat)⟩] := by
  have ho5 : 1 ≤ of ∧ of ≤ 5 := by unfold ofP at ho; omega
  obtain ⟨n, rfl⟩ := Int.eq_ofNat_of_zero_le (show 0 ≤ of by omega)
  have c1 := spec_l7Of (n : Int)
  rw [decide_eq_true (show (n : Int) = 1 ∨ (n : Int) = 3 ∨ (n : Int) = 5 from ho)] at c1
  rw [Int.toNat_natCast]
  refine fnT C.spec_FleetNew ?_
  refine runC ?_
  refine r_callp true c1 ?_
  refine run ?_
  refine r_for n (fun i => [(0, .v (.int .i64 n)), (2, .ptr 0 [] 0), (3, .ptr 1 [] 0), (4, .v (.int .i64 i))]) (fun i => [⟨0, true, [.v (.int .i64 0), .v (.slice none 0 0), .v (.slice none 0 0)]⟩] ++ newG n i) (fun _ => True) [0, 1] [] trivial Gc.of (fun i hi _ => ?_) (fun _ => ?_)
  · have hE := newE_len n i
    have hr := spec_RaftNew i n ⟨ho, by omega, by omega⟩
    have hro := spec_RollNew n ho
    cases i with
    | zero =>
      dsimp only [newG, List.cons_append, List.nil_append]
      refine run ?_
      refine r_apz ?_
      refine run ?_
      refine ⟨[0, 1, 4], [], Gc.of (hs := ?_), trivial⟩
      rw [show rowT emC (newE n (0 + 1)) = emC (emN n 0) from rowT_1 ..]
      simp (disch := omega) only [go_sem, ↓reduceIte, Nat.reduceEqDiff, Nat.reduceMul, Nat.reduceAdd, Nat.reduceSub, Nat.reduceLT, Nat.reduceGT, Nat.reduceLeDiff, Nat.reduceBEq, Int.reduceLT, Int.reduceLE, Int.reduceNe, Int.reduceEq, Int.reduceToNat, Int.reduceAdd, Int.reduceSub, Int.reduceMul, Int.reduceNeg, Nat.reducePow, Int.reducePow, Nat.reduceSubDiff, decide_true, decide_false, reduceCtorEq, or_self, or_false, false_or, or_true, true_or, if_false, gt_iff_lt, ge_iff_le, ne_eq, not_true_eq_false, not_false_eq_true, and_self, beq_self_eq_true, Bool.false_eq_true]
      exact .cons (fun _ => rfl) (fun h => h) (fun _ => .same _) (.cons (fun _ => rfl) (fun h => h) (fun _ => .same _) (.cons (fun _ => rfl) (fun h => h) (fun _ => wk_em n 0) (WkS.refl _)))
    | succ i =>
      dsimp only [newG, List.cons_append, List.nil_append]
      refine run ?_
      refine r_apw ?_
      refine run ?_
      refine ⟨[0, 1, 5], [], Gc.of (hs := ?_), trivial⟩
      rw [newE_s n (i + 1), rowT_append, rowT_1]
      simp (disch := omega) only [go_sem, ↓reduceIte, Nat.reduceEqDiff, Nat.reduceMul, Nat.reduceAdd, Nat.reduceSub, Nat.reduceLT, Nat.reduceGT, Nat.reduceLeDiff, Nat.reduceBEq, Int.reduceLT, Int.reduceLE, Int.reduceNe, Int.reduceEq, Int.reduceToNat, Int.reduceAdd, Int.reduceSub, Int.reduceMul, Int.reduceNeg, Nat.reducePow, Int.reducePow, Nat.reduceSubDiff, decide_true, decide_false, reduceCtorEq, or_self, or_false, false_or, or_true, true_or, if_false, gt_iff_lt, ge_iff_le, ne_eq, not_true_eq_false, not_false_eq_true, and_self, beq_self_eq_true, Bool.false_eq_true]
      exact .cons (fun _ => rfl) (fun h => h) (fun _ => .same _) (.cons (fun _ => rfl) (fun h => h) (fun _ => .same _) (.cons (fun _ => rfl) (fun h => h) (fun _ => Wks.tailE _ (wk_em n (i + 1))) (WkS.refl _)))
  · have e : newG n n = [⟨0, true, [.v (.int .i64 n), .ref 2 [] 0 n, .v (.slice none 0 0)]⟩, ⟨19, true, rowT emC (newE n n)⟩] := by
      cases n with
      | zero => omega
      | succ m => rfl
    rw [e]
    dsimp only [List.cons_append, List.nil_append]
    refine run ?_
    exact r_end [2] []

set_option linter.unusedSimpArgs false in
set_option maxHeartbeats 4000000 in
theorem impl_FleetNewO (of : Int) (ho : ofP of) : CallsT Try.prog [] F.impl_FleetNew [.v (.int .i64 of)] (.agg [.v (.int .i64 of), .ref 0 [] 0 of.toNat, .v (.slice none 0 0)]) [⟨19, true, rowT emC (newE of of.toNat)⟩] := by
  have ho5 : 1 ≤ of ∧ of ≤ 5 := by unfold ofP at ho; omega
  obtain ⟨n, rfl⟩ := Int.eq_ofNat_of_zero_le (show 0 ≤ of by omega)
  have c1 := impl_isOf (n : Int)
  rw [decide_eq_true (show (n : Int) = 1 ∨ (n : Int) = 3 ∨ (n : Int) = 5 from ho)] at c1
  rw [Int.toNat_natCast]
  refine fnT C.impl_FleetNew ?_
  refine runC ?_
  refine r_callp true c1 ?_
  refine run ?_
  refine r_for n (fun i => [(0, .v (.int .i64 n)), (2, .ptr 0 [] 0), (3, .ptr 1 [] 0), (13, .v (.int .i64 n)), (14, .v (.int .i64 i))]) (fun i => [⟨0, true, [.v (.int .i64 0), .v (.slice none 0 0), .v (.slice none 0 0)]⟩] ++ newG n i) (fun _ => True) [0, 1] [] trivial Gc.of (fun i hi _ => ?_) (fun _ => ?_)
  · have hE := newE_len n i
    have hr := impl_RaftNew i n ⟨ho, by omega, by omega⟩
    have hro := impl_RollNew n ho
    cases i with
    | zero =>
      dsimp only [newG, List.cons_append, List.nil_append]
      refine run ?_
      refine r_apz ?_
      refine run ?_
      refine ⟨[0, 1, 4], [], Gc.of (hs := ?_), trivial⟩
      rw [show rowT emC (newE n (0 + 1)) = emC (emN n 0) from rowT_1 ..]
      simp (disch := omega) only [go_sem, ↓reduceIte, Nat.reduceEqDiff, Nat.reduceMul, Nat.reduceAdd, Nat.reduceSub, Nat.reduceLT, Nat.reduceGT, Nat.reduceLeDiff, Nat.reduceBEq, Int.reduceLT, Int.reduceLE, Int.reduceNe, Int.reduceEq, Int.reduceToNat, Int.reduceAdd, Int.reduceSub, Int.reduceMul, Int.reduceNeg, Nat.reducePow, Int.reducePow, Nat.reduceSubDiff, decide_true, decide_false, reduceCtorEq, or_self, or_false, false_or, or_true, true_or, if_false, gt_iff_lt, ge_iff_le, ne_eq, not_true_eq_false, not_false_eq_true, and_self, beq_self_eq_true, Bool.false_eq_true]
      exact .cons (fun _ => rfl) (fun h => h) (fun _ => .same _) (.cons (fun _ => rfl) (fun h => h) (fun _ => .same _) (.cons (fun _ => rfl) (fun h => h) (fun _ => wk_em n 0) (WkS.refl _)))
    | succ i =>
      dsimp only [newG, List.cons_append, List.nil_append]
      refine run ?_
      refine r_apw ?_
      refine run ?_
      refine ⟨[0, 1, 5], [], Gc.of (hs := ?_), trivial⟩
      rw [newE_s n (i + 1), rowT_append, rowT_1]
      simp (disch := omega) only [go_sem, ↓reduceIte, Nat.reduceEqDiff, Nat.reduceMul, Nat.reduceAdd, Nat.reduceSub, Nat.reduceLT, Nat.reduceGT, Nat.reduceLeDiff, Nat.reduceBEq, Int.reduceLT, Int.reduceLE, Int.reduceNe, Int.reduceEq, Int.reduceToNat, Int.reduceAdd, Int.reduceSub, Int.reduceMul, Int.reduceNeg, Nat.reducePow, Int.reducePow, Nat.reduceSubDiff, decide_true, decide_false, reduceCtorEq, or_self, or_false, false_or, or_true, true_or, if_false, gt_iff_lt, ge_iff_le, ne_eq, not_true_eq_false, not_false_eq_true, and_self, beq_self_eq_true, Bool.false_eq_true]
      exact .cons (fun _ => rfl) (fun h => h) (fun _ => .same _) (.cons (fun _ => rfl) (fun h => h) (fun _ => .same _) (.cons (fun _ => rfl) (fun h => h) (fun _ => Wks.tailE _ (wk_em n (i + 1))) (WkS.refl _)))
  · have e : newG n n = [⟨0, true, [.v (.int .i64 n), .ref 2 [] 0 n, .v (.slice none 0 0)]⟩, ⟨19, true, rowT emC (newE n n)⟩] := by
      cases n with
      | zero => omega
      | succ m => rfl
    rw [e]
    dsimp only [List.cons_append, List.nil_append]
    refine run ?_
    exact r_end [2] []

theorem spec_FleetNewB (of : Int) (ho : ¬ ofP of) : CallsT Try.prog [] F.spec_FleetNew [.v (.int .i64 of)] (.agg [.v (.int .i64 0), .sl false 0 0 19 [], .sl false 0 0 2 []]) [] := by
  unfold ofP at ho
  refine fnT C.spec_FleetNew ?_
  refine run ?_
  exact r_end [] []
theorem impl_FleetNewB (of : Int) (ho : ¬ ofP of) : CallsT Try.prog [] F.impl_FleetNew [.v (.int .i64 of)] (.agg [.v (.int .i64 0), .sl false 0 0 19 [], .sl false 0 0 2 []]) [] := by
  unfold ofP at ho
  refine fnT C.impl_FleetNew ?_
  refine run ?_
  exact r_end [] []

end Go.TL
