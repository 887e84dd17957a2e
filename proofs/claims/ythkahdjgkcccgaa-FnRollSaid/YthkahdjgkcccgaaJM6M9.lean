/- Texts joined. No conditions but those that are written. -/
import Derived.Test.YthkahdjgkcccgaaJM2M5
/- Sort of a short row that is ascending but for its last. No conditions but those that are written. -/
namespace Go.TL
set_option linter.unusedSimpArgs false
open Go.Proofs Go.RowKit
attribute [local irreducible] wpOpsT wpT EndT Ex.seq Ex.block W

set_option maxHeartbeats 4000000 in
theorem cmp_isNaN_int (x : Int) : CallsT Try.prog [] F.cmp_isNaN_int [.v (.int .i64 x)] (.v (.bool false)) [] := by
  refine fnT C.cmp_isNaN_int ?_
  refine run ?_
  exact r_end [] []
instance (x : Int) : Con Try.prog F.cmp_isNaN_int [.v (.int .i64 x)] True (.v (.bool false)) [] := ⟨fun _ => cmp_isNaN_int x⟩

set_option maxHeartbeats 4000000 in
theorem cmp_Less_int (x y : Int) : CallsT Try.prog [] F.cmp_Less_int [.v (.int .i64 x), .v (.int .i64 y)] (.v (.bool (decide (x < y)))) [] := by
  refine fnT C.cmp_Less_int ?_
  refine run ?_
  exact r_end [] []
instance (x y : Int) : Con Try.prog F.cmp_Less_int [.v (.int .i64 x), .v (.int .i64 y)] True (.v (.bool (decide (x < y)))) [] := ⟨fun _ => cmp_Less_int x y⟩

theorem bits_1 : CallsT Try.prog [] F.math_bits_Len64 [.v (.int .u64 1)] (.v (.int .i64 1)) [] := by
  refine fnT C.math_bits_Len64 ?_
  refine run ?_
  refine r_by (t := .v (.int .u8 1)) (S' := []) (by kernel_rfl) ?_
  refine run ?_
  exact r_end [] []
theorem bits_2 : CallsT Try.prog [] F.math_bits_Len64 [.v (.int .u64 2)] (.v (.int .i64 2)) [] := by
  refine fnT C.math_bits_Len64 ?_
  refine run ?_
  refine r_by (t := .v (.int .u8 2)) (S' := []) (by kernel_rfl) ?_
  refine run ?_
  exact r_end [] []
theorem bits_3 : CallsT Try.prog [] F.math_bits_Len64 [.v (.int .u64 3)] (.v (.int .i64 2)) [] := by
  refine fnT C.math_bits_Len64 ?_
  refine run ?_
  refine r_by (t := .v (.int .u8 2)) (S' := []) (by kernel_rfl) ?_
  refine run ?_
  exact r_end [] []
theorem bits_4 : CallsT Try.prog [] F.math_bits_Len64 [.v (.int .u64 4)] (.v (.int .i64 3)) [] := by
  refine fnT C.math_bits_Len64 ?_
  refine run ?_
  refine r_by (t := .v (.int .u8 3)) (S' := []) (by kernel_rfl) ?_
  refine run ?_
  exact r_end [] []
theorem bits_5 : CallsT Try.prog [] F.math_bits_Len64 [.v (.int .u64 5)] (.v (.int .i64 3)) [] := by
  refine fnT C.math_bits_Len64 ?_
  refine run ?_
  refine r_by (t := .v (.int .u8 3)) (S' := []) (by kernel_rfl) ?_
  refine run ?_
  exact r_end [] []
theorem bits_6 : CallsT Try.prog [] F.math_bits_Len64 [.v (.int .u64 6)] (.v (.int .i64 3)) [] := by
  refine fnT C.math_bits_Len64 ?_
  refine run ?_
  refine r_by (t := .v (.int .u8 3)) (S' := []) (by kernel_rfl) ?_
  refine run ?_
  exact r_end [] []
theorem bits_Len64 (x : Int) (h0 : 0 < x) (h1 : x ≤ 6) : ∃ v, CallsT Try.prog [] F.math_bits_Len64 [.v (.int .u64 x)] (.v (.int .i64 v)) [] := by
  have h : x = 1 ∨ x = 2 ∨ x = 3 ∨ x = 4 ∨ x = 5 ∨ x = 6 := by omega
  rcases h with rfl | rfl | rfl | rfl | rfl | rfl
  · exact ⟨_, bits_1⟩
  · exact ⟨_, bits_2⟩
  · exact ⟨_, bits_3⟩
  · exact ⟨_, bits_4⟩
  · exact ⟨_, bits_5⟩
  · exact ⟨_, bits_6⟩
theorem bits_Len (x : Int) (h0 : 0 < x) (h1 : x ≤ 6) : ∃ v, CallsT Try.prog [] F.math_bits_Len [.v (.int .u64 x)] (.v (.int .i64 v)) [] := by
  obtain ⟨v, hv⟩ := bits_Len64 x h0 h1
  refine ⟨v, ?_⟩
  refine fnT C.math_bits_Len ?_
  refine runC ?_
  refine r_callp true hv ?_
  refine run ?_
  exact r_end [] []

@[go_sem] theorem get_ownN {l : List Int} {i : Nat} (h : i < l.length) : (rowT i64C l)[i]? = some (.v (.int .i64 (nth l (i : Nat)))) := by
  have := get_own (l := l) (x := (i : Int)) (by simpa using h)
  simpa using this

/-- x at a place in r. -/
def insAt (r : List Int) (x : Int) (j : Nat) : List Int := r.take j ++ x :: r.drop j
theorem insAt_len {r : List Int} {x : Int} {j : Nat} (h : j ≤ r.length) : (insAt r x j).length = r.length + 1 := by
  simp only [insAt, List.length_append, List.length_take, List.length_cons, List.length_drop]; omega
theorem insAt_lt {r : List Int} {x : Int} {j t : Nat} (h : j ≤ r.length) (ht : t < j) : nth (insAt r x j) (t : Nat) = nth r (t : Nat) := by
  rw [nth_nat (by rw [insAt_len h]; omega), nth_nat (by omega)]
  simp only [insAt]
  rw [List.getElem_append_left (by rw [List.length_take]; omega), List.getElem_take]
theorem insAt_at {r : List Int} {x : Int} {j : Nat} (h : j ≤ r.length) : nth (insAt r x j) (j : Nat) = x := by
  rw [nth_nat (by rw [insAt_len h]; omega)]
  simp only [insAt]
  rw [List.getElem_append_right (by rw [List.length_take]; omega)]
  simp only [List.length_take, show j - min j r.length = 0 by omega, List.getElem_cons_zero]
theorem insAt_step {r : List Int} {x : Int} {j : Nat} (h : j < r.length) : ((insAt r x (j + 1)).set (j + 1) (nth r (j : Nat))).set j x = insAt r x j := by
  have hl : (r.take (j + 1)).length = j + 1 := by rw [List.length_take]; omega
  have e1 : insAt r x (j + 1) = r.take j ++ nth r (j : Nat) :: x :: r.drop (j + 1) := by
    rw [insAt, take_nth h, List.append_assoc]; rfl
  have hl2 : (r.take j).length = j := by rw [List.length_take]; omega
  rw [e1, List.set_append_right _ _ (by omega), hl2, show j + 1 - j = 1 by omega, List.set_cons_succ, List.set_cons_zero, List.set_append_right _ _ (by omega), hl2, Nat.sub_self, List.set_cons_zero, insAt, List.drop_eq_getElem_cons h, nth_nat h]
theorem putS_lt {x y : Int} {o : List Int} (h : y < x) : putS x (o, false) y = (o ++ [y], false) := by
  have h1 : ¬ x ≤ y := by omega
  have h2 : ¬ y = x := by omega
  simp [putS, h1, h2]
theorem putS_gt {x y : Int} {o : List Int} (h : x < y) : putS x (o, false) y = (o ++ [x] ++ [y], true) := by
  have h1 : x ≤ y := by omega
  have h2 : ¬ y = x := by omega
  simp [putS, h1, h2]
theorem putS_tr {x y : Int} {o : List Int} (h : x < y) : putS x (o, true) y = (o ++ [y], true) := by
  have h2 : ¬ y = x := by omega
  simp [putS, h2]
theorem putI_insAt {r : List Int} {x : Int} {j : Nat} (hj : j ≤ r.length) (h1 : ∀ t, t < j → nth r (t : Nat) < x) (h2 : ∀ t, j ≤ t → t < r.length → x < nth r (t : Nat)) : putI r x = insAt r x j := by
  have key1 : ∀ i, i ≤ j → putSt (r.take i) x = (r.take i, false) := by
    intro i
    induction i with
    | zero => intro _; rfl
    | succ i ih =>
      intro hi
      rw [putSt_s x (by omega), ih (by omega), take_nth (by omega : i < r.length), putS_lt (h1 i (by omega))]
  have key2 : ∀ d, j + d < r.length → putSt (r.take (j + d + 1)) x = (r.take j ++ x :: (r.drop j).take (d + 1), true) := by
    intro d
    induction d with
    | zero =>
      intro hd
      rw [Nat.add_zero, putSt_s x (by omega), key1 j (Nat.le_refl _), putS_gt (h2 j (Nat.le_refl _) (by omega))]
      rw [List.drop_eq_getElem_cons (by omega : j < r.length), ← nth_nat (by omega : j < r.length)]
      simp
    | succ d ih =>
      intro hd
      have h := h2 (j + d + 1) (by omega) (by omega)
      have e : (r.drop j).take (d + 1 + 1) = (r.drop j).take (d + 1) ++ [nth r ((j + d + 1 : Nat) : Int)] := by
        rw [List.take_succ_eq_append_getElem (by rw [List.length_drop]; omega), List.getElem_drop, nth_nat (by omega)]
        simp only [Nat.add_assoc]
      rw [show j + (d + 1) = j + d + 1 by omega, putSt_s x (by omega), ih (by omega), putS_tr h, e]
      simp
  unfold putI
  rcases Nat.lt_or_ge j r.length with hlt | hge
  · have := key2 (r.length - j - 1) (by omega)
    have e2 : (r.drop j).take (r.length - j - 1 + 1) = r.drop j := List.take_of_length_le (by rw [List.length_drop]; omega)
    rw [show j + (r.length - j - 1) + 1 = r.length by omega, List.take_length, e2] at this
    rw [this, if_pos rfl]; rfl
  · have hj' : j = r.length := by omega
    have := key1 j (Nat.le_refl _)
    rw [hj', List.take_length] at this
    rw [this, if_neg (by simp), insAt, hj', List.take_length, List.drop_length]

theorem nth_app_lt {r : List Int} {x : Int} {i : Nat} (h : i < r.length) : nth (r ++ [x]) (i : Nat) = nth r (i : Nat) := by
  rw [nth_nat (by simp; omega), nth_nat h, List.getElem_append_left h]
theorem asc_le {r : List Int} (ha : ∀ i, i + 1 < r.length → nth r (i : Nat) < nth r ((i + 1 : Nat) : Int)) : ∀ d t, t + d < r.length → nth r (t : Nat) ≤ nth r ((t + d : Nat) : Int)
  | 0, t, _ => Int.le_refl _
  | d + 1, t, h => by
    have h1 := asc_le ha d t (by omega)
    have h2 := ha (t + d) (by omega)
    rw [show t + (d + 1) = t + d + 1 by omega]
    omega
theorem insAt_all (r : List Int) (x : Int) : insAt r x r.length = r ++ [x] := by simp [insAt]

set_option maxHeartbeats 4000000 in
theorem insertionI (r : List Int) (x : Int) (ha : ∀ i, i + 1 < r.length → nth r (i : Nat) < nth r ((i + 1 : Nat) : Int)) (hx : x ∉ r) (hl : r.length ≤ 1000) : CallsT Try.prog [⟨1, true, rowT i64C (r ++ [x])⟩] F.slices_insertionSortOrdered_int [.ref 0 [] 0 (r ++ [x]).length, .v (.int .i64 0), .v (.int .i64 ((r ++ [x]).length))] (.tup []) [⟨1, true, rowT i64C (putI r x)⟩] := by
  have hn : (r ++ [x]).length = r.length + 1 := by simp
  refine fnT C.slices_insertionSortOrdered_int ?_
  refine run ?_
  refine r_loop_of (fun (i : Nat) => [(0, .ref 0 [] 0 (r ++ [x]).length), (1, .v (.int .i64 0)), (2, .v (.int .i64 ((r ++ [x]).length))), (6, .v (.int .i64 i))]) (fun i => [⟨1, true, rowT i64C (if i ≤ r.length then r ++ [x] else putI r x)⟩]) (fun i => 1 ≤ i ∧ i ≤ r.length + 1) (fun i => r.length + 1 - i) 1 [0] [] (by omega) (Gc.of (hs := ?_)) (fun i hi => ?_)
  · by_cases h : 1 ≤ r.length
    · rw [if_pos h]; (simp (disch := omega) only [go_sem, ↓reduceIte, Nat.reduceEqDiff, Nat.reduceMul, Nat.reduceAdd, Nat.reduceSub, Nat.reduceLT, Nat.reduceGT, Nat.reduceLeDiff, Nat.reduceBEq, Int.reduceLT, Int.reduceLE, Int.reduceNe, Int.reduceEq, Int.reduceToNat, Int.reduceAdd, Int.reduceSub, Int.reduceMul, Int.reduceNeg, Nat.reducePow, Int.reducePow, Nat.reduceSubDiff, decide_true, decide_false, reduceCtorEq, or_self, or_false, false_or, or_true, true_or, if_false, gt_iff_lt, ge_iff_le, ne_eq, not_true_eq_false, not_false_eq_true, and_self, beq_self_eq_true, Bool.false_eq_true, List.append_assoc]; exact WkS.refl _)
    · have : r = [] := List.eq_nil_of_length_eq_zero (by omega)
      subst this
      rw [if_neg h]; (simp (disch := omega) only [go_sem, ↓reduceIte, Nat.reduceEqDiff, Nat.reduceMul, Nat.reduceAdd, Nat.reduceSub, Nat.reduceLT, Nat.reduceGT, Nat.reduceLeDiff, Nat.reduceBEq, Int.reduceLT, Int.reduceLE, Int.reduceNe, Int.reduceEq, Int.reduceToNat, Int.reduceAdd, Int.reduceSub, Int.reduceMul, Int.reduceNeg, Nat.reducePow, Int.reducePow, Nat.reduceSubDiff, decide_true, decide_false, reduceCtorEq, or_self, or_false, false_or, or_true, true_or, if_false, gt_iff_lt, ge_iff_le, ne_eq, not_true_eq_false, not_false_eq_true, and_self, beq_self_eq_true, Bool.false_eq_true, List.append_assoc]; exact WkS.refl _)
  by_cases hr : i ≤ r.length
  · rw [if_pos hr]
    refine run ?_
    by_cases hr2 : i < r.length
    · have e1 := nth_app_lt (x := x) hr2
      have e2 := nth_app_lt (x := x) (show i - 1 < r.length by omega)
      have e3 := ha (i - 1) (by omega)
      rw [show i - 1 + 1 = i by omega] at e3
      rw [show ((i - 1 : Nat) : Int) = (i : Int) - 1 by omega] at e2 e3
      refine r_loop_of (fun (j : Nat) => [(0, .ref 0 [] 0 (r ++ [x]).length), (1, .v (.int .i64 0)), (2, .v (.int .i64 ((r ++ [x]).length))), (6, .v (.int .i64 i)), (7, .v (.int .i64 j))]) (fun _ => [⟨1, true, rowT i64C (r ++ [x])⟩]) (fun j => j = i) (fun j => j) i [0] [] rfl Gc.of (fun j hj => ?_)
      subst hj
      refine run ?_
      refine r_ifd (fun h => ?_) (fun h => ?_)
      · have := h.2
        rw [nth_toNat] at this
        omega
      · refine run ?_
        refine ⟨j + 1, [0], [], Gc.of (hs := ?_), by omega, by omega⟩
        rw [if_pos (by omega)]; (simp (disch := omega) only [go_sem, ↓reduceIte, Nat.reduceEqDiff, Nat.reduceMul, Nat.reduceAdd, Nat.reduceSub, Nat.reduceLT, Nat.reduceGT, Nat.reduceLeDiff, Nat.reduceBEq, Int.reduceLT, Int.reduceLE, Int.reduceNe, Int.reduceEq, Int.reduceToNat, Int.reduceAdd, Int.reduceSub, Int.reduceMul, Int.reduceNeg, Nat.reducePow, Int.reducePow, Nat.reduceSubDiff, decide_true, decide_false, reduceCtorEq, or_self, or_false, false_or, or_true, true_or, if_false, gt_iff_lt, ge_iff_le, ne_eq, not_true_eq_false, not_false_eq_true, and_self, beq_self_eq_true, Bool.false_eq_true, List.append_assoc]; exact WkS.refl _)
    · have hir : i = r.length := by omega
      subst hir
      refine r_loop_of (fun (j : Nat) => [(0, .ref 0 [] 0 (r ++ [x]).length), (1, .v (.int .i64 0)), (2, .v (.int .i64 ((r ++ [x]).length))), (6, .v (.int .i64 r.length)), (7, .v (.int .i64 j))]) (fun j => [⟨1, true, rowT i64C (insAt r x j)⟩]) (fun j => j ≤ r.length ∧ ∀ t, j ≤ t → t < r.length → x < nth r (t : Nat)) (fun j => j) r.length [0] [] ⟨Nat.le_refl _, fun t h1 h2 => by omega⟩ (Gc.of (hs := by rw [insAt_all]; (simp (disch := omega) only [go_sem, ↓reduceIte, Nat.reduceEqDiff, Nat.reduceMul, Nat.reduceAdd, Nat.reduceSub, Nat.reduceLT, Nat.reduceGT, Nat.reduceLeDiff, Nat.reduceBEq, Int.reduceLT, Int.reduceLE, Int.reduceNe, Int.reduceEq, Int.reduceToNat, Int.reduceAdd, Int.reduceSub, Int.reduceMul, Int.reduceNeg, Nat.reducePow, Int.reducePow, Nat.reduceSubDiff, decide_true, decide_false, reduceCtorEq, or_self, or_false, false_or, or_true, true_or, if_false, gt_iff_lt, ge_iff_le, ne_eq, not_true_eq_false, not_false_eq_true, and_self, beq_self_eq_true, Bool.false_eq_true, List.append_assoc]; exact WkS.refl _))) (fun j hj => ?_)
      obtain ⟨hj1, hj2⟩ := hj
      have hjl := insAt_len (x := x) hj1
      have e1 := insAt_at (x := x) hj1
      refine run ?_
      refine r_ifd (fun h => ?_) (fun h => ?_)
      · obtain ⟨m, rfl⟩ : ∃ m, j = m + 1 := ⟨j - 1, by omega⟩
        have e2 := insAt_lt (x := x) hj1 (show m < m + 1 by omega)
        rw [show ((m : Nat) : Int) = ((m + 1 : Nat) : Int) - 1 by omega] at e2
        have h2 := h.2
        rw [nth_toNat, e1, e2] at h2
        have e4 : nth (insAt r x (m + 1)) ((m : Int) + 1 - 1) = nth r (m : Nat) := by
          have := e2
          rw [show ((m + 1 : Nat) : Int) - 1 = (m : Int) + 1 - 1 by omega] at this
          rw [this]; congr 1; omega
        have e6 : nth (insAt r x (m + 1)) ((m : Int) + 1) = x := by
          rw [show (m : Int) + 1 = ((m + 1 : Nat) : Int) by omega]; exact e1
        have hst := insAt_step (x := x) (show m < r.length by omega)
        refine run ?_
        refine r_sto (enc := i64C) _ (m + 1) _ ?_
        refine run ?_
        refine r_sto (enc := i64C) _ m _ ?_
        simp only [nth_toNat, e4, e6, hst]
        refine run ?_
        refine ⟨m, [0], [], Gc.of, by omega, by omega, fun t h3 h4 => ?_⟩
        rcases Nat.eq_or_lt_of_le h3 with rfl | h5
        · rw [show ((m + 1 : Nat) : Int) - 1 = (m : Nat) by omega] at h2; exact h2
        · exact hj2 t h5 h4
      · refine run ?_
        refine ⟨r.length + 1, [0], [], Gc.of (hs := ?_), by omega, by omega⟩
        rw [if_neg (by omega)]
        have e5 : putI r x = insAt r x j := putI_insAt hj1 (fun t ht => ?_) hj2
        · rw [e5]; (simp (disch := omega) only [go_sem, ↓reduceIte, Nat.reduceEqDiff, Nat.reduceMul, Nat.reduceAdd, Nat.reduceSub, Nat.reduceLT, Nat.reduceGT, Nat.reduceLeDiff, Nat.reduceBEq, Int.reduceLT, Int.reduceLE, Int.reduceNe, Int.reduceEq, Int.reduceToNat, Int.reduceAdd, Int.reduceSub, Int.reduceMul, Int.reduceNeg, Nat.reducePow, Int.reducePow, Nat.reduceSubDiff, decide_true, decide_false, reduceCtorEq, or_self, or_false, false_or, or_true, true_or, if_false, gt_iff_lt, ge_iff_le, ne_eq, not_true_eq_false, not_false_eq_true, and_self, beq_self_eq_true, Bool.false_eq_true, List.append_assoc]; exact WkS.refl _)
        have e2 := insAt_lt (x := x) hj1 (show j - 1 < j by omega)
        rw [show ((j - 1 : Nat) : Int) = (j : Int) - 1 by omega] at e2
        have h6 : ¬ x < nth r ((j : Int) - 1) := fun hh => h ⟨by omega, by rw [nth_toNat, e1, e2]; exact hh⟩
        have h7 := asc_le ha (j - 1 - t) t (by omega)
        rw [show ((t + (j - 1 - t) : Nat) : Int) = (j : Int) - 1 by omega] at h7
        have h8 : nth r (t : Nat) ≠ x := fun hh => hx (hh ▸ nth_mem (by omega))
        omega
  · rw [if_neg hr]
    refine run ?_
    exact EndT.norm (r_end [0] [])

/-- Where x belongs in an ascending row. -/
theorem asc_place {r : List Int} {x : Int} (ha : ∀ i, i + 1 < r.length → nth r (i : Nat) < nth r ((i + 1 : Nat) : Int)) (hx : x ∉ r) : ∃ j, j ≤ r.length ∧ (∀ t, t < j → nth r (t : Nat) < x) ∧ ∀ t, j ≤ t → t < r.length → x < nth r (t : Nat) := by
  have key : ∀ j, j ≤ r.length → (∀ t, j ≤ t → t < r.length → x < nth r (t : Nat)) → ∃ j, j ≤ r.length ∧ (∀ t, t < j → nth r (t : Nat) < x) ∧ ∀ t, j ≤ t → t < r.length → x < nth r (t : Nat) := by
    intro j
    induction j with
    | zero => intro hj h2; exact ⟨0, hj, fun t ht => absurd ht (Nat.not_lt_zero _), h2⟩
    | succ j ih =>
      intro hj h2
      have hne : nth r (j : Nat) ≠ x := fun hh => hx (hh ▸ nth_mem (by omega))
      by_cases h : x < nth r (j : Nat)
      · refine ih (by omega) fun t h3 h4 => ?_
        rcases Nat.eq_or_lt_of_le h3 with rfl | h5
        · exact h
        · exact h2 t h5 h4
      · refine ⟨j + 1, hj, fun t ht => ?_, h2⟩
        have := asc_le ha (j - t) t (by omega)
        rw [show t + (j - t) = j by omega] at this
        omega
  exact key r.length (Nat.le_refl _) fun t h1 h2 => by omega
theorem putI_len1 {r : List Int} {x : Int} (ha : ∀ i, i + 1 < r.length → nth r (i : Nat) < nth r ((i + 1 : Nat) : Int)) (hx : x ∉ r) : (putI r x).length = (r ++ [x]).length := by
  obtain ⟨j, h1, h2, h3⟩ := asc_place ha hx
  rw [putI_insAt h1 h2 h3, insAt_len h1, List.length_append]; rfl

end Go.TL

/- slices.Sort of a short row that is ascending but for its last. No conditions but those that are written. -/
namespace Go.TL
set_option linter.unusedSimpArgs false
open Go.Proofs Go.RowKit
attribute [local irreducible] wpOpsT wpT EndT Ex.seq Ex.block W

@[go_sem] theorem wrap_u64 {x : Int} (h : 0 ≤ x ∧ x < 18446744073709551616) : IntKind.u64.wrap x = x := by
  simp only [IntKind.wrap, IntKind.bits, IntKind.signed]
  simp
  omega

theorem pdqI (r : List Int) (x v : Int) (ha : ∀ i, i + 1 < r.length → nth r (i : Nat) < nth r ((i + 1 : Nat) : Int)) (hx : x ∉ r) (hl : r.length ≤ 5) : CallsT Try.prog [⟨1, true, rowT i64C (r ++ [x])⟩] F.slices_pdqsortOrdered_int [.ref 0 [] 0 (r ++ [x]).length, .v (.int .i64 0), .v (.int .i64 ((r ++ [x]).length)), .v (.int .i64 v)] (.tup []) [⟨1, true, rowT i64C (putI r x)⟩] := by
  have hn : (r ++ [x]).length = r.length + 1 := by simp
  refine fnT C.slices_pdqsortOrdered_int ?_
  refine run ?_
  refine r_loop_of (fun (_ : Unit) => [(0, .ref 0 [] 0 (r ++ [x]).length), (1, .v (.int .i64 0)), (2, .v (.int .i64 ((r ++ [x]).length))), (3, .v (.int .i64 v))]) (fun _ => [⟨1, true, rowT i64C (r ++ [x])⟩]) (fun _ => True) (fun _ => 0) () [0] [] trivial Gc.of (fun _ _ => ?_)
  refine runC ?_
  refine r_calln [0] (insertionI r x ha hx (by omega)) ?_
  refine run ?_
  exact r_end [0] []

theorem sortI (r : List Int) (x : Int) (ha : ∀ i, i + 1 < r.length → nth r (i : Nat) < nth r ((i + 1 : Nat) : Int)) (hx : x ∉ r) (hl : r.length ≤ 5) : CallsT Try.prog [⟨1, true, rowT i64C (r ++ [x])⟩] F.slices_Sort_int [.ref 0 [] 0 (r ++ [x]).length] (.tup []) [⟨1, true, rowT i64C (putI r x)⟩] := by
  have hn : (r ++ [x]).length = r.length + 1 := by simp
  obtain ⟨v, hv⟩ := bits_Len ((r ++ [x]).length : Int) (by omega) (by omega)
  refine fnT C.slices_Sort_int ?_
  refine runC ?_
  refine r_callp false hv ?_
  refine runC ?_
  refine r_calln [0] (pdqI r x v ha hx hl) ?_
  refine run ?_
  exact EndT.norm (r_end [0] [])

end Go.TL

/- What the program does to a roll of its own. No conditions but those that are written. -/
namespace Go.TL
set_option linter.unusedSimpArgs false
open Go.Proofs Go.RowKit
attribute [local irreducible] wpOpsT wpT EndT Ex.seq Ex.block W

section
variable {α : Type} [Inhabited α] {enc : α → List T} {sz : Nat} [h : RowL enc sz]
theorem get_rowL' (l : List α) (i f : Nat) (hi : i < l.length) (hf : f < sz) : (rowT enc l)[i * sz + f]? = (enc (nth l (i : Nat)))[f]? := by
  have ht : (l.take i).length = i := by rw [List.length_take]; omega
  rw [row_split (enc := enc) l i hi, at_row ht, List.getElem?_append_left (by rw [h.len]; exact hf)]
@[go_sem] theorem get_rowL {l : List α} {i f : Nat} (hi : i < l.length) (hf : f < sz) : (rowT enc l)[i * sz + f]? = (enc (nth l (i : Nat)))[f]? := get_rowL' l i f hi hf
@[go_sem] theorem get_rowL0 {l : List α} {i : Nat} (hi : i < l.length) (hf : 0 < sz) : (rowT enc l)[i * sz]? = (enc (nth l (i : Nat)))[0]? := get_rowL' l i 0 hi hf
end

section
variable {P : Program} {n : Nat} {S S1 S2 : Store} {fr : Nat → T} {ops : Array Oper} {d : Nat} {ty : TypeId} {pos : String} {aft : Array Edge} {rest : List Oper} {K : (Nat → T) → Store → Prop} {t ty2 : TypeId} {x y : Operand} {α : Type} {enc : α → List T} {sz : Nat}
/-- An append to a row that lies in a cell of another. -/
theorem r_apx {pu pu' : Dr} {gd : Option (Nat × Bool)} [he : RowE enc sz] (l1 l2 : List α) {r j N k bs : Nat} {zs : List T} {e : TypeId} (hb : l1.length + l2.length ≤ 100000000) (h : wpOpsT P ops n pu' rest K (upd fr d (.ref k [] 0 (l1 ++ l2).length)) S2)
    (hw : wantedT ops fr ⟨some d, .call ⟨.builtin .append, #[x, y], #[t, ty2]⟩, ty, pos, aft, gd⟩ = some true := by rfl)
    (hx : TL.ev fr x = .ref r [j] 0 l1.length := by (first | (simp only [go_sem, ↓reduceIte, Nat.reduceEqDiff, Nat.reduceMul, Nat.reduceAdd, Nat.reduceSub, Nat.reduceLT, Nat.reduceGT, Nat.reduceLeDiff, Nat.reduceBEq, Int.reduceLT, Int.reduceLE, Int.reduceNe, Int.reduceEq, Int.reduceToNat, Int.reduceAdd, Int.reduceSub, Int.reduceMul, Int.reduceNeg, Nat.reducePow, Int.reducePow, Nat.reduceSubDiff, decide_true, decide_false, reduceCtorEq, or_self, or_false, false_or, or_true, true_or, if_false, gt_iff_lt, ge_iff_le, ne_eq, not_true_eq_false, not_false_eq_true, and_self, beq_self_eq_true, Bool.false_eq_true] <;> with_reducible rfl) | with_reducible rfl)) (hS1 : outS r [] j S = S1 := by ((simp (disch := omega) only [go_sem, ↓reduceIte, Nat.reduceEqDiff, Nat.reduceMul, Nat.reduceAdd, Nat.reduceSub, Nat.reduceLT, Nat.reduceGT, Nat.reduceLeDiff, Nat.reduceBEq, Int.reduceLT, Int.reduceLE, Int.reduceNe, Int.reduceEq, Int.reduceToNat, Int.reduceAdd, Int.reduceSub, Int.reduceMul, Int.reduceNeg, Nat.reducePow, Int.reducePow, Nat.reduceSubDiff, decide_true, decide_false, reduceCtorEq, or_self, or_false, false_or, or_true, true_or, if_false, gt_iff_lt, ge_iff_le, ne_eq, not_true_eq_false, not_false_eq_true, and_self, beq_self_eq_true, Bool.false_eq_true]) <;> with_reducible rfl)) (hN : S.length = N := by (first | (simp only [go_sem, ↓reduceIte, Nat.reduceEqDiff, Nat.reduceMul, Nat.reduceAdd, Nat.reduceSub, Nat.reduceLT, Nat.reduceGT, Nat.reduceLeDiff, Nat.reduceBEq, Int.reduceLT, Int.reduceLE, Int.reduceNe, Int.reduceEq, Int.reduceToNat, Int.reduceAdd, Int.reduceSub, Int.reduceMul, Int.reduceNeg, Nat.reducePow, Int.reducePow, Nat.reduceSubDiff, decide_true, decide_false, reduceCtorEq, or_self, or_false, false_or, or_true, true_or, if_false, gt_iff_lt, ge_iff_le, ne_eq, not_true_eq_false, not_false_eq_true, and_self, beq_self_eq_true, Bool.false_eq_true] <;> with_reducible rfl) | with_reducible rfl))
    (hat : S1.at false N [] = some (sz, rowT enc l1) := by (first | (simp only [go_sem, ↓reduceIte, Nat.reduceEqDiff, Nat.reduceMul, Nat.reduceAdd, Nat.reduceSub, Nat.reduceLT, Nat.reduceGT, Nat.reduceLeDiff, Nat.reduceBEq, Int.reduceLT, Int.reduceLE, Int.reduceNe, Int.reduceEq, Int.reduceToNat, Int.reduceAdd, Int.reduceSub, Int.reduceMul, Int.reduceNeg, Nat.reducePow, Int.reducePow, Nat.reduceSubDiff, decide_true, decide_false, reduceCtorEq, or_self, or_false, false_or, or_true, true_or, if_false, gt_iff_lt, ge_iff_le, ne_eq, not_true_eq_false, not_false_eq_true, and_self, beq_self_eq_true, Bool.false_eq_true] <;> with_reducible rfl) | with_reducible rfl))
    (hy : srcT S1 sz (reT (outF r [] j N) (TL.ev fr y)) = some (l2.length, rowT enc l2) := by (simp (disch := omega) only [srcT, go_sem, ↓reduceIte, Nat.reduceEqDiff, Nat.reduceMul, Nat.reduceAdd, Nat.reduceSub, Nat.reduceLT, Nat.reduceGT, Nat.reduceLeDiff, Nat.reduceBEq, Int.reduceLT, Int.reduceLE, Int.reduceNe, Int.reduceEq, Int.reduceToNat, Int.reduceAdd, Int.reduceSub, Int.reduceMul, Int.reduceNeg, Nat.reducePow, Int.reducePow, Nat.reduceSubDiff, decide_true, decide_false, reduceCtorEq, or_self, or_false, false_or, or_true, true_or, if_false, gt_iff_lt, ge_iff_le, ne_eq, not_true_eq_false, not_false_eq_true, and_self, beq_self_eq_true, Bool.false_eq_true] <;> rfl))
    (h1 : elemT P t = some e := by (first | (simp only [go_sem, ↓reduceIte, Nat.reduceEqDiff, Nat.reduceMul, Nat.reduceAdd, Nat.reduceSub, Nat.reduceLT, Nat.reduceGT, Nat.reduceLeDiff, Nat.reduceBEq, Int.reduceLT, Int.reduceLE, Int.reduceNe, Int.reduceEq, Int.reduceToNat, Int.reduceAdd, Int.reduceSub, Int.reduceMul, Int.reduceNeg, Nat.reducePow, Int.reducePow, Nat.reduceSubDiff, decide_true, decide_false, reduceCtorEq, or_self, or_false, false_or, or_true, true_or, if_false, gt_iff_lt, ge_iff_le, ne_eq, not_true_eq_false, not_false_eq_true, and_self, beq_self_eq_true, Bool.false_eq_true] <;> with_reducible rfl) | with_reducible rfl)) (h2 : szT P e = some sz := by (first | (simp only [go_sem, ↓reduceIte, Nat.reduceEqDiff, Nat.reduceMul, Nat.reduceAdd, Nat.reduceSub, Nat.reduceLT, Nat.reduceGT, Nat.reduceLeDiff, Nat.reduceBEq, Int.reduceLT, Int.reduceLE, Int.reduceNe, Int.reduceEq, Int.reduceToNat, Int.reduceAdd, Int.reduceSub, Int.reduceMul, Int.reduceNeg, Nat.reducePow, Int.reducePow, Nat.reduceSubDiff, decide_true, decide_false, reduceCtorEq, or_self, or_false, false_or, or_true, true_or, if_false, gt_iff_lt, ge_iff_le, ne_eq, not_true_eq_false, not_false_eq_true, and_self, beq_self_eq_true, Bool.false_eq_true] <;> with_reducible rfl) | with_reducible rfl)) (h3 : bytesT P e = some bs := by (first | (simp only [go_sem, ↓reduceIte, Nat.reduceEqDiff, Nat.reduceMul, Nat.reduceAdd, Nat.reduceSub, Nat.reduceLT, Nat.reduceGT, Nat.reduceLeDiff, Nat.reduceBEq, Int.reduceLT, Int.reduceLE, Int.reduceNe, Int.reduceEq, Int.reduceToNat, Int.reduceAdd, Int.reduceSub, Int.reduceMul, Int.reduceNeg, Nat.reducePow, Int.reducePow, Nat.reduceSubDiff, decide_true, decide_false, reduceCtorEq, or_self, or_false, false_or, or_true, true_or, if_false, gt_iff_lt, ge_iff_le, ne_eq, not_true_eq_false, not_false_eq_true, and_self, beq_self_eq_true, Bool.false_eq_true] <;> with_reducible rfl) | with_reducible rfl)) (h4 : zeroT P e = some zs := by (first | (simp only [go_sem, ↓reduceIte, Nat.reduceEqDiff, Nat.reduceMul, Nat.reduceAdd, Nat.reduceSub, Nat.reduceLT, Nat.reduceGT, Nat.reduceLeDiff, Nat.reduceBEq, Int.reduceLT, Int.reduceLE, Int.reduceNe, Int.reduceEq, Int.reduceToNat, Int.reduceAdd, Int.reduceSub, Int.reduceMul, Int.reduceNeg, Nat.reducePow, Int.reducePow, Nat.reduceSubDiff, decide_true, decide_false, reduceCtorEq, or_self, or_false, false_or, or_true, true_or, if_false, gt_iff_lt, ge_iff_le, ne_eq, not_true_eq_false, not_false_eq_true, and_self, beq_self_eq_true, Bool.false_eq_true] <;> with_reducible rfl) | with_reducible rfl)) (h5 : notInt P ty2 = true := by (first | (simp only [go_sem, ↓reduceIte, Nat.reduceEqDiff, Nat.reduceMul, Nat.reduceAdd, Nat.reduceSub, Nat.reduceLT, Nat.reduceGT, Nat.reduceLeDiff, Nat.reduceBEq, Int.reduceLT, Int.reduceLE, Int.reduceNe, Int.reduceEq, Int.reduceToNat, Int.reduceAdd, Int.reduceSub, Int.reduceMul, Int.reduceNeg, Nat.reducePow, Int.reducePow, Nat.reduceSubDiff, decide_true, decide_false, reduceCtorEq, or_self, or_false, false_or, or_true, true_or, if_false, gt_iff_lt, ge_iff_le, ne_eq, not_true_eq_false, not_false_eq_true, and_self, beq_self_eq_true, Bool.false_eq_true] <;> with_reducible rfl) | with_reducible rfl))
    (h6 : (Nat.ble bs 1000 && (zs.length == sz) && Nat.blt 0 sz) = true := by rfl) (hk : S1.length = k := by (first | (simp only [go_sem, ↓reduceIte, Nat.reduceEqDiff, Nat.reduceMul, Nat.reduceAdd, Nat.reduceSub, Nat.reduceLT, Nat.reduceGT, Nat.reduceLeDiff, Nat.reduceBEq, Int.reduceLT, Int.reduceLE, Int.reduceNe, Int.reduceEq, Int.reduceToNat, Int.reduceAdd, Int.reduceSub, Int.reduceMul, Int.reduceNeg, Nat.reducePow, Int.reducePow, Nat.reduceSubDiff, decide_true, decide_false, reduceCtorEq, or_self, or_false, false_or, or_true, true_or, if_false, gt_iff_lt, ge_iff_le, ne_eq, not_true_eq_false, not_false_eq_true, and_self, beq_self_eq_true, Bool.false_eq_true] <;> with_reducible rfl) | with_reducible rfl)) (hS : S1.kill N ++ [⟨sz, true, rowT enc (l1 ++ l2)⟩] = S2 := by (first | (simp only [go_sem, ↓reduceIte, Nat.reduceEqDiff, Nat.reduceMul, Nat.reduceAdd, Nat.reduceSub, Nat.reduceLT, Nat.reduceGT, Nat.reduceLeDiff, Nat.reduceBEq, Int.reduceLT, Int.reduceLE, Int.reduceNe, Int.reduceEq, Int.reduceToNat, Int.reduceAdd, Int.reduceSub, Int.reduceMul, Int.reduceNeg, Nat.reducePow, Int.reducePow, Nat.reduceSubDiff, decide_true, decide_false, reduceCtorEq, or_self, or_false, false_or, or_true, true_or, if_false, gt_iff_lt, ge_iff_le, ne_eq, not_true_eq_false, not_false_eq_true, and_self, beq_self_eq_true, Bool.false_eq_true] <;> with_reducible rfl) | with_reducible rfl)) (hd : Nat.blt d n = true := by rfl)
    (hp : Dr.step P ops n pu fr S ⟨some d, .call ⟨.builtin .append, #[x, y], #[t, ty2]⟩, ty, pos, aft, gd⟩ (.ref k [] 0 (l1 ++ l2).length) S2 pu' := by first | exact Dr.step.txt | exact dr_chain) :
    wpOpsT P ops n pu (⟨some d, .call ⟨.builtin .append, #[x, y], #[t, ty2]⟩, ty, pos, aft, gd⟩ :: rest) K fr S := by
  simp only [Bool.and_eq_true, beq_iff_eq, Nat.blt_eq] at h6
  have hbs := Nat.le_of_ble_eq_true h6.1.1
  have hm : (l1.length + l2.length) * bs ≤ 100000000 * 1000 := Nat.mul_le_mul hb hbs
  have := app_own (S := S1) (ty2 := ty2) he.e.len h6.2 h1 h2 h3 h4 h6.1.2 h5 hy hat (by omega) (by omega)
  refine r_op (opT_do hw (by simpa [okDst, Nat.blt_eq] using hd) rfl ?_) hp h
  show appendX P S t ty2 (TL.ev fr x) (TL.ev fr y) = _
  rw [hx]
  show appendT P (outS r [] j S) t ty2 (reT (outF r [] j S.length) (.ref r [j] 0 l1.length)) (reT (outF r [] j S.length) (TL.ev fr y)) = _
  rw [hS1, hN, show reT (outF r [] j N) (.ref r [j] 0 l1.length) = .ref N [] 0 l1.length by simp [reT, outF, stripP], this, hk, hS]
end

/-- The roots of a roll that a method is lent. -/
def mineS (of : Int) (rels : List RelV) (act : Int) (order : List Int) : Store := [⟨0, true, [.v (.int .i64 of), nilR 1 rels, .v (.int .i64 act), .ref 2 [] 0 order.length]⟩, ⟨5, !rels.isEmpty, rowT relW rels⟩, ⟨1, true, rowT i64C order⟩]
def newC (r z : Int) (d : ByteArray) : List T := [.v (.int .i64 r), .v (.int .i64 z), .v (.string d), .v (.slice none 0 0), .v (.int .i64 1)]
def annO (of : Int) (rels : List RelV) (act : Int) (order : List Int) (r z : Int) (d : ByteArray) : Int × Store :=
  if 0 < (rels.length : Int) ∧ r ≤ (nth rels ((rels.length : Int) - 1)).no then (2, mineS of rels act order)
  else if (rels.length : Int) = 30 then (7, mineS of rels act order)
  else (0, [⟨0, true, [.v (.int .i64 of), .ref 3 [] 0 (rels.length + 1), .v (.int .i64 act), .ref 2 [] 0 order.length]⟩, ⟨5, false, []⟩, ⟨1, true, rowT i64C order⟩, ⟨5, true, rowT relW rels ++ newC r z d⟩])

set_option linter.unusedSimpArgs false in
set_option maxHeartbeats 8000000 in
theorem impl_announce (of : Int) (rels : List RelV) (act : Int) (order : List Int) (k r n z : Int) (d : ByteArray) (hlr : rels.length ≤ 1048576) :
    CallsT Try.prog (mineS of rels act order) F.impl_Roll_announce [.ptr 0 [] 0, .agg [.v (.int .i64 k), .v (.int .i64 r), .v (.int .i64 n), .v (.int .i64 z), .v (.string d)]] (.v (.int .i64 ((annO of rels act order r z d).1))) (annO of rels act order r z d).2 := by
  refine fnT C.impl_Roll_announce ?_
  unfold mineS
  by_cases hne : rels = []
  · subst hne
    rw [nilR_nil]
    rw [show annO of [] act order r z d = (0, [⟨0, true, [.v (.int .i64 of), .ref 3 [] 0 1, .v (.int .i64 act), .ref 2 [] 0 order.length]⟩, ⟨5, false, []⟩, ⟨1, true, rowT i64C order⟩, ⟨5, true, newC r z d⟩]) from rfl]
    refine run ?_
    refine r_apz ?_
    refine run ?_
    exact r_end [0, 1, 2, 5] []
  rw [nilR_ne 1 hne, isE hne]
  have hpos : 0 < rels.length := List.length_pos_iff.2 hne
  refine run ?_
  refine r_ifd (fun h => ?_) (fun h => ?_)
  · rw [show annO of rels act order r z d = (2, mineS of rels act order) from if_pos h]
    unfold mineS
    rw [nilR_ne 1 hne, isE hne]
    refine run ?_
    exact r_end [0, 1, 2] []
  refine run ?_
  refine r_ifd (fun h2 => ?_) (fun h2 => ?_)
  · rw [show annO of rels act order r z d = (7, mineS of rels act order) from (if_neg h).trans (if_pos h2)]
    unfold mineS
    rw [nilR_ne 1 hne, isE hne]
    refine run ?_
    exact r_end [0, 1, 2] []
  rw [show annO of rels act order r z d = (0, [⟨0, true, [.v (.int .i64 of), .ref 3 [] 0 (rels.length + 1), .v (.int .i64 act), .ref 2 [] 0 order.length]⟩, ⟨5, false, []⟩, ⟨1, true, rowT i64C order⟩, ⟨5, true, rowT relW rels ++ newC r z d⟩]) from (if_neg h).trans (if_neg h2)]
  refine run ?_
  refine r_apw ?_
  refine run ?_
  exact r_end [0, 1, 2, 5] []

def turnO (of : Int) (rels : List RelV) (act : Int) (order : List Int) (k r n : Int) (i : Nat) : Int × Store :=
  if ¬ (nth rels (i : Nat)).state = 1 then (4, mineS of rels act order)
  else if k = 5 then (0, mineS of (rels.set i { nth rels (i : Nat) with state := 3 }) act order)
  else if k = 3 then
    if n ∈ (nth rels (i : Nat)).ready then (0, mineS of rels act order)
    else (0, [⟨0, true, [.v (.int .i64 of), .ref 3 [] 0 rels.length, .v (.int .i64 act), .ref 2 [] 0 order.length]⟩, ⟨5, false, []⟩, ⟨1, true, rowT i64C order⟩, ⟨5, true, rowT relW (rels.set i { nth rels (i : Nat) with ready := putI (nth rels (i : Nat)).ready n })⟩])
  else if r ≤ act then (6, mineS of rels act order)
  else if ((nth rels (i : Nat)).ready.length : Int) < of then (5, mineS of rels act order)
  else (0, [⟨0, true, [.v (.int .i64 of), .ref 1 [] 0 rels.length, .v (.int .i64 r), .ref 3 [] 0 (order ++ [r]).length]⟩, ⟨5, true, rowT relW (rels.set i { nth rels (i : Nat) with state := 2 })⟩, ⟨1, false, []⟩, ⟨1, true, rowT i64C (order ++ [r])⟩])

set_option linter.unusedSimpArgs false in
set_option maxHeartbeats 8000000 in
theorem impl_turn_none (of : Int) (rels : List RelV) (act : Int) (order : List Int) (k r n z : Int) (d : ByteArray) (hlr : rels.length ≤ 1048576) (h : findR rels r < 0 ∨ (k = 3 ∧ of ≤ n)) :
    CallsT Try.prog (mineS of rels act order) F.impl_Roll_turn [.ptr 0 [] 0, .agg [.v (.int .i64 k), .v (.int .i64 r), .v (.int .i64 n), .v (.int .i64 z), .v (.string d)]] (.v (.int .i64 3)) (mineS of rels act order) := by
  refine fnT C.impl_Roll_turn ?_
  unfold mineS
  by_cases hne : rels = []
  · subst hne
    rw [nilR_nil]
    refine runC ?_
    refine r_callp true (impl_relAt 1 1 of [] act order r (Nat.zero_le _)) (ts1 := [.agg [.v (.int .i64 of), .sl false 0 0 5 [], .v (.int .i64 act), .ref 2 [] 0 order.length], .v (.int .i64 r)]) (hk := by (simp only [go_sem, ↓reduceIte, Nat.reduceEqDiff, Nat.reduceMul, Nat.reduceAdd, Nat.reduceSub, Nat.reduceLT, Nat.reduceGT, Nat.reduceLeDiff, Nat.reduceBEq, Int.reduceLT, Int.reduceLE, Int.reduceNe, Int.reduceEq, Int.reduceToNat, Int.reduceAdd, Int.reduceSub, Int.reduceMul, Int.reduceNeg, Nat.reducePow, Int.reducePow, Nat.reduceSubDiff, decide_true, decide_false, reduceCtorEq, or_self, or_false, false_or, or_true, true_or, if_false, gt_iff_lt, ge_iff_le, ne_eq, not_true_eq_false, not_false_eq_true, and_self, beq_self_eq_true, Bool.false_eq_true]; try (repeat (first | exact True.intro | exact Wk.refl _ | exact Wk.nilR _ _ _ | exact Wk.nil _ _ | exact Wk.dead _ | exact Wk.bT (by assumption) | exact Wk.bF (by assumption) | exact Wk.eqI (by omega) | exact WkS.refl _ | exact Wks.same _ | exact Wks.nil | exact WkS.nil | refine And.intro ?_ ?_ | refine Wk.aggs ?_ | refine Wk.tups ?_ | refine Wks.cons ?_ ?_ | refine WkS.cons (by first | exact fun _ => rfl | exact fun h => absurd h Bool.false_ne_true) ?_ ?_ ?_ | assumption | exact (fun h => h) | exact (fun h => absurd h Bool.false_ne_true) | intro _)))) ?_
    rw [show findR [] r = -1 from rfl]
    refine run ?_
    exact r_end [0, 1, 2] []
  rw [nilR_ne 1 hne, isE hne]
  refine run ?_
  exact r_end [0, 1, 2] []

set_option linter.unusedSimpArgs false in
set_option maxHeartbeats 8000000 in
theorem impl_turn (of : Int) (rels : List RelV) (act : Int) (order : List Int) (k r n z : Int) (d : ByteArray) (i : Nat) (hi : i < rels.length) (hf : findR rels r = (i : Nat)) (h : ¬ (k = 3 ∧ of ≤ n)) (hlr : rels.length ≤ 1048576) (hlo : order.length ≤ 1048576)
    (hrl : (nth rels (i : Nat)).ready.length ≤ 5) (ha : ∀ t, t + 1 < (nth rels (i : Nat)).ready.length → nth (nth rels (i : Nat)).ready (t : Nat) < nth (nth rels (i : Nat)).ready ((t + 1 : Nat) : Int)) :
    CallsT Try.prog (mineS of rels act order) F.impl_Roll_turn [.ptr 0 [] 0, .agg [.v (.int .i64 k), .v (.int .i64 r), .v (.int .i64 n), .v (.int .i64 z), .v (.string d)]] (.v (.int .i64 ((turnO of rels act order k r n i).1))) (turnO of rels act order k r n i).2 := by
  refine fnT C.impl_Roll_turn ?_
  have hne : rels ≠ [] := by intro h; rw [h] at hi; simp at hi
  unfold mineS
  rw [nilR_ne 1 hne, isE hne]
  have ht : (rels.take i).length = i := by rw [List.length_take]; omega
  refine run ?_
  rw [hf]
  refine run ?_
  refine r_ifd (fun h3 => ?_) (fun h3 => ?_)
  · rw [show turnO of rels act order k r n i = (4, mineS of rels act order) from if_pos h3]
    unfold mineS
    rw [nilR_ne 1 hne, isE hne]
    refine run ?_
    exact r_end [0, 1, 2] []
  refine run ?_
  refine r_ifd (fun h4 => ?_) (fun h4 => ?_)
  · rw [show turnO of rels act order k r n i = (0, mineS of (rels.set i { nth rels (i : Nat) with state := 3 }) act order) from (if_neg h3).trans (if_pos h4)]
    unfold mineS
    rw [nilR_ne 1 (ne_set hne i _), isE (ne_set hne i _), List.length_set, row_set relW rels i _ hi]
    rw [row_split (enc := relW) rels i hi]
    dsimp only [relW, List.cons_append, List.nil_append]
    refine run ?_
    refine r_stw ?_
    refine run ?_
    exact r_end [0, 1, 2] []
  refine run ?_
  refine r_ifd (fun h5 => ?_) (fun h5 => ?_)
  · refine runC ?_
    refine r_callc ?_ (ha := by ((simp (disch := omega) only [go_sem, ↓reduceIte, Nat.reduceEqDiff, Nat.reduceMul, Nat.reduceAdd, Nat.reduceSub, Nat.reduceLT, Nat.reduceGT, Nat.reduceLeDiff, Nat.reduceBEq, Int.reduceLT, Int.reduceLE, Int.reduceNe, Int.reduceEq, Int.reduceToNat, Int.reduceAdd, Int.reduceSub, Int.reduceMul, Int.reduceNeg, Nat.reducePow, Int.reducePow, Nat.reduceSubDiff, decide_true, decide_false, reduceCtorEq, or_self, or_false, false_or, or_true, true_or, if_false, gt_iff_lt, ge_iff_le, ne_eq, not_true_eq_false, not_false_eq_true, and_self, beq_self_eq_true, Bool.false_eq_true]) <;> with_reducible rfl))
    refine run ?_
    refine r_ifd (fun h6 => ?_) (fun h6 => ?_)
    · rw [show turnO of rels act order k r n i = (0, [⟨0, true, [.v (.int .i64 of), .ref 3 [] 0 rels.length, .v (.int .i64 act), .ref 2 [] 0 order.length]⟩, ⟨5, false, []⟩, ⟨1, true, rowT i64C order⟩, ⟨5, true, rowT relW (rels.set i { nth rels (i : Nat) with ready := putI (nth rels (i : Nat)).ready n })⟩]) from (if_neg h3).trans ((if_neg h4).trans ((if_pos h5).trans (if_neg h6)))]
      rw [row_set relW rels i _ hi]
      rw [row_split (enc := relW) rels i hi]
      dsimp only [relW, List.cons_append, List.nil_append]
      refine run ?_
      refine r_apx (enc := i64C) (nth rels (i : Nat)).ready [n] (by simp only [List.length_cons, List.length_nil]; omega) ?_
      refine run ?_
      refine r_stw ?_
      refine runC ?_
      refine r_calln [6] (sortI (nth rels (i : Nat)).ready n ha h6 hrl) ?_
      refine run ?_
      have hpl := putI_len1 ha h6
      refine r_end [0, 1, 2, 7] [.nestP 1 [] (i * 5 + 3) 6] (hs := ?_)
      rw [← hpl]
      (simp (disch := omega) only [go_sem, ↓reduceIte, Nat.reduceEqDiff, Nat.reduceMul, Nat.reduceAdd, Nat.reduceSub, Nat.reduceLT, Nat.reduceGT, Nat.reduceLeDiff, Nat.reduceBEq, Int.reduceLT, Int.reduceLE, Int.reduceNe, Int.reduceEq, Int.reduceToNat, Int.reduceAdd, Int.reduceSub, Int.reduceMul, Int.reduceNeg, Nat.reducePow, Int.reducePow, Nat.reduceSubDiff, decide_true, decide_false, reduceCtorEq, or_self, or_false, false_or, or_true, true_or, if_false, gt_iff_lt, ge_iff_le, ne_eq, not_true_eq_false, not_false_eq_true, and_self, beq_self_eq_true, Bool.false_eq_true]; try (repeat (first | exact True.intro | exact Wk.refl _ | exact Wk.nilR _ _ _ | exact Wk.nil _ _ | exact Wk.dead _ | exact Wk.bT (by assumption) | exact Wk.bF (by assumption) | exact Wk.eqI (by omega) | exact WkS.refl _ | exact Wks.same _ | exact Wks.nil | exact WkS.nil | refine And.intro ?_ ?_ | refine Wk.aggs ?_ | refine Wk.tups ?_ | refine Wks.cons ?_ ?_ | refine WkS.cons (by first | exact fun _ => rfl | exact fun h => absurd h Bool.false_ne_true) ?_ ?_ ?_ | assumption | exact (fun h => h) | exact (fun h => absurd h Bool.false_ne_true) | intro _)))
    · have h6 := Decidable.not_not.1 h6
      rw [show turnO of rels act order k r n i = (0, mineS of rels act order) from (if_neg h3).trans ((if_neg h4).trans ((if_pos h5).trans (if_pos h6)))]
      unfold mineS
      rw [nilR_ne 1 hne, isE hne]
      refine run ?_
      exact r_end [0, 1, 2] []
  refine run ?_
  refine r_ifd (fun h6 => ?_) (fun h6 => ?_)
  · rw [show turnO of rels act order k r n i = (6, mineS of rels act order) from (if_neg h3).trans ((if_neg h4).trans ((if_neg h5).trans (if_pos h6)))]
    unfold mineS
    rw [nilR_ne 1 hne, isE hne]
    refine run ?_
    exact r_end [0, 1, 2] []
  refine run ?_
  refine r_ifd (fun h7 => ?_) (fun h7 => ?_)
  · rw [show turnO of rels act order k r n i = (5, mineS of rels act order) from (if_neg h3).trans ((if_neg h4).trans ((if_neg h5).trans ((if_neg h6).trans (if_pos h7))))]
    unfold mineS
    rw [nilR_ne 1 hne, isE hne]
    refine run ?_
    exact r_end [0, 1, 2] []
  rw [show turnO of rels act order k r n i = (0, [⟨0, true, [.v (.int .i64 of), .ref 1 [] 0 rels.length, .v (.int .i64 r), .ref 3 [] 0 (order ++ [r]).length]⟩, ⟨5, true, rowT relW (rels.set i { nth rels (i : Nat) with state := 2 })⟩, ⟨1, false, []⟩, ⟨1, true, rowT i64C (order ++ [r])⟩]) from (if_neg h3).trans ((if_neg h4).trans ((if_neg h5).trans ((if_neg h6).trans (if_neg h7))))]
  rw [row_set relW rels i _ hi]
  rw [row_split (enc := relW) rels i hi]
  dsimp only [relW, List.cons_append, List.nil_append]
  refine run ?_
  refine r_stw ?_
  refine run ?_
  exact r_end [0, 1, 2, 5] []

end Go.TL

/- The program does what the plain words say. No conditions but those that are written. -/
namespace Go.TL
set_option linter.unusedSimpArgs false
open Go.Proofs Go.RowKit
attribute [local irreducible] wpOpsT wpT EndT Ex.seq Ex.block W

theorem putS_eq {x : Int} {o : List Int} : putS x (o, false) x = (o ++ [x], true) := by simp [putS]
theorem putI_mem {r : List Int} {x : Int} (ha : ∀ i, i + 1 < r.length → nth r (i : Nat) < nth r ((i + 1 : Nat) : Int)) (hx : x ∈ r) : putI r x = r := by
  obtain ⟨j, hj, rfl⟩ := List.mem_iff_getElem.1 hx
  rw [← nth_nat hj]
  have lt : ∀ t s, t < s → s < r.length → nth r (t : Nat) < nth r (s : Nat) := fun t s h1 h2 => by
    have h3 := ha t (by omega)
    have h4 := asc_le ha (s - (t + 1)) (t + 1) (by omega)
    rw [show t + 1 + (s - (t + 1)) = s by omega] at h4
    omega
  have key1 : ∀ i, i ≤ j → putSt (r.take i) (nth r (j : Nat)) = (r.take i, false) := by
    intro i
    induction i with
    | zero => intro _; rfl
    | succ i ih =>
      intro hi
      rw [putSt_s _ (by omega), ih (by omega), take_nth (by omega : i < r.length), putS_lt (lt i j (by omega) hj)]
  have key2 : ∀ d, j + d < r.length → putSt (r.take (j + d + 1)) (nth r (j : Nat)) = (r.take (j + d + 1), true) := by
    intro d
    induction d with
    | zero =>
      intro hd
      rw [Nat.add_zero, putSt_s _ hj, key1 j (Nat.le_refl _), putS_eq, take_nth hj]
    | succ d ih =>
      intro hd
      rw [show j + (d + 1) = j + d + 1 by omega, putSt_s _ (by omega), ih (by omega), putS_tr (lt j (j + d + 1) (by omega) (by omega)), take_nth (by omega : j + d + 1 < r.length)]
  have := key2 (r.length - j - 1) (by omega)
  rw [show j + (r.length - j - 1) + 1 = r.length by omega, List.take_length] at this
  unfold putI
  rw [this, if_pos rfl]

/-- A method's call, and what it leaves. -/
theorem wk_new (rels : List RelV) (r z : Int) (d : ByteArray) : Wks (rowT relW rels ++ newC r z d) (rowT relO (rels ++ [⟨r, z, d, [], 1⟩])) := by
  rw [rowT_append, rowT_1]
  refine Wks.app (wk_rels rels) ?_
  exact .cons (.refl _) (.cons (.refl _) (.cons (.refl _) (.cons Wk.nilO (.cons (.refl _) .nil))))

set_option linter.unusedSimpArgs false in
set_option maxHeartbeats 8000000 in
theorem impl_RollApply (k0 k1 : Nat) (of : Int) (rels : List RelV) (act : Int) (order : List Int) (k r n z : Int) (d : ByteArray) (hb : bndRoll rels order) (hpre : totRoll rels order ≤ 1048576) :
    CallsT Try.prog [] F.impl_RollApply [.agg [.v (.int .i64 of), .sl false k0 rels.length 5 (rowT relC rels), .v (.int .i64 act), .sl false k1 order.length 1 (rowT i64C order)], .agg [.v (.int .i64 k), .v (.int .i64 r), .v (.int .i64 n), .v (.int .i64 z), .v (.string d)]] (.tup [rollT (applyP of rels act order k r n z d).1, .v (.int .i64 ((applyP of rels act order k r n z d).2))]) (rollS (applyP of rels act order k r n z d).1) := by
  have hlr := rels_len hpre
  have hlo : order.length ≤ 1048576 := by
    have h3 := sum_nn totRelV_nn rels
    have h6 : totIS order = order.length := rfl
    unfold totRoll totRelS at hpre
    omega
  have hcopy := fun q0 q1 => impl_copyRoll q0 q1 of rels act order hpre
  refine fnT C.impl_RollApply ?_
  refine run ?_
  refine r_ifd (fun h => ?_) (fun h => ?_)
  · rw [show applyP of rels act order k r n z d = (⟨0, [], 0, []⟩, 1) from if_neg (by grind)]
    dsimp only [rollT, rollS]
    refine run ?_
    exact r_end [0, 1] [] (hres := by (simp only [go_sem, ↓reduceIte, Nat.reduceEqDiff, Nat.reduceMul, Nat.reduceAdd, Nat.reduceSub, Nat.reduceLT, Nat.reduceGT, Nat.reduceLeDiff, Nat.reduceBEq, Int.reduceLT, Int.reduceLE, Int.reduceNe, Int.reduceEq, Int.reduceToNat, Int.reduceAdd, Int.reduceSub, Int.reduceMul, Int.reduceNeg, Nat.reducePow, Int.reducePow, Nat.reduceSubDiff, decide_true, decide_false, reduceCtorEq, or_self, or_false, false_or, or_true, true_or, if_false, gt_iff_lt, ge_iff_le, ne_eq, not_true_eq_false, not_false_eq_true, and_self, beq_self_eq_true, Bool.false_eq_true]; try (repeat (first | exact True.intro | exact Wk.refl _ | exact Wk.nilR _ _ _ | exact Wk.nil _ _ | exact Wk.dead _ | exact Wk.bT (by assumption) | exact Wk.bF (by assumption) | exact Wk.eqI (by omega) | exact WkS.refl _ | exact Wks.same _ | exact Wks.nil | exact WkS.nil | refine And.intro ?_ ?_ | refine Wk.aggs ?_ | refine Wk.tups ?_ | refine Wks.cons ?_ ?_ | refine WkS.cons (by first | exact fun _ => rfl | exact fun h => absurd h Bool.false_ne_true) ?_ ?_ ?_ | assumption | exact (fun h => h) | exact (fun h => absurd h Bool.false_ne_true) | intro _))))
  have hok : rollP of rels act order ∧ cmdP k r n z d := by grind
  rw [show applyP of rels act order k r n z d = applyR of rels act order k r n z d from if_pos hok]
  refine runC ?_
  refine r_callp true (hcopy 1 1) ?_
  refine runC ?_
  refine r_ifd (fun h1 => ?_) (fun h1 => ?_)
  · rw [show applyR of rels act order k r n z d = (⟨of, rels, act, order⟩, 0) from if_pos h1]
    dsimp only [rollT, rollS]
    refine run ?_
    refine r_end [3, 4] [.sealR 4] (hs := ?_) (hres := by (simp only [go_sem, ↓reduceIte, Nat.reduceEqDiff, Nat.reduceMul, Nat.reduceAdd, Nat.reduceSub, Nat.reduceLT, Nat.reduceGT, Nat.reduceLeDiff, Nat.reduceBEq, Int.reduceLT, Int.reduceLE, Int.reduceNe, Int.reduceEq, Int.reduceToNat, Int.reduceAdd, Int.reduceSub, Int.reduceMul, Int.reduceNeg, Nat.reducePow, Int.reducePow, Nat.reduceSubDiff, decide_true, decide_false, reduceCtorEq, or_self, or_false, false_or, or_true, true_or, if_false, gt_iff_lt, ge_iff_le, ne_eq, not_true_eq_false, not_false_eq_true, and_self, beq_self_eq_true, Bool.false_eq_true]; try (repeat (first | exact True.intro | exact Wk.refl _ | exact Wk.nilR _ _ _ | exact Wk.nil _ _ | exact Wk.dead _ | exact Wk.bT (by assumption) | exact Wk.bF (by assumption) | exact Wk.eqI (by omega) | exact WkS.refl _ | exact Wks.same _ | exact Wks.nil | exact WkS.nil | refine And.intro ?_ ?_ | refine Wk.aggs ?_ | refine Wk.tups ?_ | refine Wks.cons ?_ ?_ | refine WkS.cons (by first | exact fun _ => rfl | exact fun h => absurd h Bool.false_ne_true) ?_ ?_ ?_ | assumption | exact (fun h => h) | exact (fun h => absurd h Bool.false_ne_true) | intro _))))
    simp (disch := omega) only [go_sem, ↓reduceIte, Nat.reduceEqDiff, Nat.reduceMul, Nat.reduceAdd, Nat.reduceSub, Nat.reduceLT, Nat.reduceGT, Nat.reduceLeDiff, Nat.reduceBEq, Int.reduceLT, Int.reduceLE, Int.reduceNe, Int.reduceEq, Int.reduceToNat, Int.reduceAdd, Int.reduceSub, Int.reduceMul, Int.reduceNeg, Nat.reducePow, Int.reducePow, Nat.reduceSubDiff, decide_true, decide_false, reduceCtorEq, or_self, or_false, false_or, or_true, true_or, if_false, gt_iff_lt, ge_iff_le, ne_eq, not_true_eq_false, not_false_eq_true, and_self, beq_self_eq_true, Bool.false_eq_true]
    exact .cons (fun _ => rfl) (fun h => h) (fun _ => wk_rels _) (WkS.refl _)
  refine runC ?_
  refine r_ifd (fun h2 => ?_) (fun h2 => ?_)
  · have ea : ∀ x, applyR of rels act order k r n z d = x ↔ (if 0 < (rels.length : Int) ∧ r ≤ (nth rels ((rels.length : Int) - 1)).no then (⟨of, rels, act, order⟩, 2) else if (rels.length : Int) = 30 then (⟨of, rels, act, order⟩, 7) else ((⟨of, rels ++ [⟨r, z, d, [], 1⟩], act, order⟩ : RollV), (0 : Int))) = x := fun x => by
      unfold applyR; rw [if_neg h1, if_pos h2]
    have ann := impl_announce of rels act order k r n z d hlr
    by_cases h3 : 0 < (rels.length : Int) ∧ r ≤ (nth rels ((rels.length : Int) - 1)).no
    · rw [show annO of rels act order r z d = (2, mineS of rels act order) from if_pos h3] at ann
      rw [(ea _).2 (if_pos h3)]
      unfold mineS at ann
      refine runC ?_
      refine r_calln [5, 3, 4] ann ?_
      (refine runC ?_; refine r_callp true (hcopy 1 1) ?_; dsimp only [rollT, rollS]; refine run ?_; refine r_end [6, 7] [.sealR 7] (hs := ?_) (hres := by (simp only [go_sem, ↓reduceIte, Nat.reduceEqDiff, Nat.reduceMul, Nat.reduceAdd, Nat.reduceSub, Nat.reduceLT, Nat.reduceGT, Nat.reduceLeDiff, Nat.reduceBEq, Int.reduceLT, Int.reduceLE, Int.reduceNe, Int.reduceEq, Int.reduceToNat, Int.reduceAdd, Int.reduceSub, Int.reduceMul, Int.reduceNeg, Nat.reducePow, Int.reducePow, Nat.reduceSubDiff, decide_true, decide_false, reduceCtorEq, or_self, or_false, false_or, or_true, true_or, if_false, gt_iff_lt, ge_iff_le, ne_eq, not_true_eq_false, not_false_eq_true, and_self, beq_self_eq_true, Bool.false_eq_true]; try (repeat (first | exact True.intro | exact Wk.refl _ | exact Wk.nilR _ _ _ | exact Wk.nil _ _ | exact Wk.dead _ | exact Wk.bT (by assumption) | exact Wk.bF (by assumption) | exact Wk.eqI (by omega) | exact WkS.refl _ | exact Wks.same _ | exact Wks.nil | exact WkS.nil | refine And.intro ?_ ?_ | refine Wk.aggs ?_ | refine Wk.tups ?_ | refine Wks.cons ?_ ?_ | refine WkS.cons (by first | exact fun _ => rfl | exact fun h => absurd h Bool.false_ne_true) ?_ ?_ ?_ | assumption | exact (fun h => h) | exact (fun h => absurd h Bool.false_ne_true) | intro _)))); simp (disch := omega) only [go_sem, ↓reduceIte, Nat.reduceEqDiff, Nat.reduceMul, Nat.reduceAdd, Nat.reduceSub, Nat.reduceLT, Nat.reduceGT, Nat.reduceLeDiff, Nat.reduceBEq, Int.reduceLT, Int.reduceLE, Int.reduceNe, Int.reduceEq, Int.reduceToNat, Int.reduceAdd, Int.reduceSub, Int.reduceMul, Int.reduceNeg, Nat.reducePow, Int.reducePow, Nat.reduceSubDiff, decide_true, decide_false, reduceCtorEq, or_self, or_false, false_or, or_true, true_or, if_false, gt_iff_lt, ge_iff_le, ne_eq, not_true_eq_false, not_false_eq_true, and_self, beq_self_eq_true, Bool.false_eq_true]; exact .cons (fun _ => rfl) (fun h => h) (fun _ => wk_rels _) (WkS.refl _))
    by_cases h4 : (rels.length : Int) = 30
    · rw [show annO of rels act order r z d = (7, mineS of rels act order) from (if_neg h3).trans (if_pos h4)] at ann
      rw [(ea _).2 ((if_neg h3).trans (if_pos h4))]
      unfold mineS at ann
      refine runC ?_
      refine r_calln [5, 3, 4] ann ?_
      (refine runC ?_; refine r_callp true (hcopy 1 1) ?_; dsimp only [rollT, rollS]; refine run ?_; refine r_end [6, 7] [.sealR 7] (hs := ?_) (hres := by (simp only [go_sem, ↓reduceIte, Nat.reduceEqDiff, Nat.reduceMul, Nat.reduceAdd, Nat.reduceSub, Nat.reduceLT, Nat.reduceGT, Nat.reduceLeDiff, Nat.reduceBEq, Int.reduceLT, Int.reduceLE, Int.reduceNe, Int.reduceEq, Int.reduceToNat, Int.reduceAdd, Int.reduceSub, Int.reduceMul, Int.reduceNeg, Nat.reducePow, Int.reducePow, Nat.reduceSubDiff, decide_true, decide_false, reduceCtorEq, or_self, or_false, false_or, or_true, true_or, if_false, gt_iff_lt, ge_iff_le, ne_eq, not_true_eq_false, not_false_eq_true, and_self, beq_self_eq_true, Bool.false_eq_true]; try (repeat (first | exact True.intro | exact Wk.refl _ | exact Wk.nilR _ _ _ | exact Wk.nil _ _ | exact Wk.dead _ | exact Wk.bT (by assumption) | exact Wk.bF (by assumption) | exact Wk.eqI (by omega) | exact WkS.refl _ | exact Wks.same _ | exact Wks.nil | exact WkS.nil | refine And.intro ?_ ?_ | refine Wk.aggs ?_ | refine Wk.tups ?_ | refine Wks.cons ?_ ?_ | refine WkS.cons (by first | exact fun _ => rfl | exact fun h => absurd h Bool.false_ne_true) ?_ ?_ ?_ | assumption | exact (fun h => h) | exact (fun h => absurd h Bool.false_ne_true) | intro _)))); simp (disch := omega) only [go_sem, ↓reduceIte, Nat.reduceEqDiff, Nat.reduceMul, Nat.reduceAdd, Nat.reduceSub, Nat.reduceLT, Nat.reduceGT, Nat.reduceLeDiff, Nat.reduceBEq, Int.reduceLT, Int.reduceLE, Int.reduceNe, Int.reduceEq, Int.reduceToNat, Int.reduceAdd, Int.reduceSub, Int.reduceMul, Int.reduceNeg, Nat.reducePow, Int.reducePow, Nat.reduceSubDiff, decide_true, decide_false, reduceCtorEq, or_self, or_false, false_or, or_true, true_or, if_false, gt_iff_lt, ge_iff_le, ne_eq, not_true_eq_false, not_false_eq_true, and_self, beq_self_eq_true, Bool.false_eq_true]; exact .cons (fun _ => rfl) (fun h => h) (fun _ => wk_rels _) (WkS.refl _))
    rw [show annO of rels act order r z d = (0, [⟨0, true, [.v (.int .i64 of), .ref 3 [] 0 (rels.length + 1), .v (.int .i64 act), .ref 2 [] 0 order.length]⟩, ⟨5, false, []⟩, ⟨1, true, rowT i64C order⟩, ⟨5, true, rowT relW rels ++ newC r z d⟩]) from (if_neg h3).trans (if_neg h4)] at ann
    rw [(ea _).2 ((if_neg h3).trans (if_neg h4))]
    dsimp only [newC, mineS] at ann
    dsimp only [rollT, rollS]
    rw [rowR_ne 5 0 (ne_app rels _), live_app, List.length_append]
    refine runC ?_
    refine r_calln [5, 3, 4] ann ?_
    refine run ?_
    refine r_end [6, 4] [.sealR 4] (hs := ?_) (hres := by (simp only [go_sem, ↓reduceIte, Nat.reduceEqDiff, Nat.reduceMul, Nat.reduceAdd, Nat.reduceSub, Nat.reduceLT, Nat.reduceGT, Nat.reduceLeDiff, Nat.reduceBEq, Int.reduceLT, Int.reduceLE, Int.reduceNe, Int.reduceEq, Int.reduceToNat, Int.reduceAdd, Int.reduceSub, Int.reduceMul, Int.reduceNeg, Nat.reducePow, Int.reducePow, Nat.reduceSubDiff, decide_true, decide_false, reduceCtorEq, or_self, or_false, false_or, or_true, true_or, if_false, gt_iff_lt, ge_iff_le, ne_eq, not_true_eq_false, not_false_eq_true, and_self, beq_self_eq_true, Bool.false_eq_true]; try (repeat (first | exact True.intro | exact Wk.refl _ | exact Wk.nilR _ _ _ | exact Wk.nil _ _ | exact Wk.dead _ | exact Wk.bT (by assumption) | exact Wk.bF (by assumption) | exact Wk.eqI (by omega) | exact WkS.refl _ | exact Wks.same _ | exact Wks.nil | exact WkS.nil | refine And.intro ?_ ?_ | refine Wk.aggs ?_ | refine Wk.tups ?_ | refine Wks.cons ?_ ?_ | refine WkS.cons (by first | exact fun _ => rfl | exact fun h => absurd h Bool.false_ne_true) ?_ ?_ ?_ | assumption | exact (fun h => h) | exact (fun h => absurd h Bool.false_ne_true) | intro _))))
    simp (disch := omega) only [go_sem, ↓reduceIte, Nat.reduceEqDiff, Nat.reduceMul, Nat.reduceAdd, Nat.reduceSub, Nat.reduceLT, Nat.reduceGT, Nat.reduceLeDiff, Nat.reduceBEq, Int.reduceLT, Int.reduceLE, Int.reduceNe, Int.reduceEq, Int.reduceToNat, Int.reduceAdd, Int.reduceSub, Int.reduceMul, Int.reduceNeg, Nat.reducePow, Int.reducePow, Nat.reduceSubDiff, decide_true, decide_false, reduceCtorEq, or_self, or_false, false_or, or_true, true_or, if_false, gt_iff_lt, ge_iff_le, ne_eq, not_true_eq_false, not_false_eq_true, and_self, beq_self_eq_true, Bool.false_eq_true]
    exact .cons (fun _ => rfl) (fun _ => rfl) (fun _ => wk_new rels r z d) (WkS.refl _)
  obtain ⟨hroll, hcmd⟩ := hok
  have hof : 1 ≤ of ∧ of ≤ 5 := by
    have := hroll.1
    unfold ofP at this
    omega
  have hk : k = 3 ∨ k = 4 ∧ n = 0 ∨ k = 5 ∧ n = 0 := by
    unfold cmdP at hcmd
    rw [if_neg h1, if_neg h2] at hcmd
    by_cases h3 : k = 3
    · exact .inl h3
    · rw [if_neg h3] at hcmd
      split at hcmd
      · rename_i h4
        rcases h4 with h4 | h4
        · exact .inr (.inl ⟨h4, hcmd.2.1⟩)
        · exact .inr (.inr ⟨h4, hcmd.2.1⟩)
      · exact hcmd.elim
  by_cases hnone : findR rels r < 0 ∨ of ≤ n
  · have tn := impl_turn_none of rels act order k r n z d hlr (by omega)
    rw [show applyR of rels act order k r n z d = (⟨of, rels, act, order⟩, 3) by unfold applyR; rw [if_neg h1, if_neg h2, if_pos hnone]]
    unfold mineS at tn
    refine runC ?_
    refine r_calln [5, 3, 4] tn ?_
    (refine runC ?_; refine r_callp true (hcopy 1 1) ?_; dsimp only [rollT, rollS]; refine run ?_; refine r_end [6, 7] [.sealR 7] (hs := ?_) (hres := by (simp only [go_sem, ↓reduceIte, Nat.reduceEqDiff, Nat.reduceMul, Nat.reduceAdd, Nat.reduceSub, Nat.reduceLT, Nat.reduceGT, Nat.reduceLeDiff, Nat.reduceBEq, Int.reduceLT, Int.reduceLE, Int.reduceNe, Int.reduceEq, Int.reduceToNat, Int.reduceAdd, Int.reduceSub, Int.reduceMul, Int.reduceNeg, Nat.reducePow, Int.reducePow, Nat.reduceSubDiff, decide_true, decide_false, reduceCtorEq, or_self, or_false, false_or, or_true, true_or, if_false, gt_iff_lt, ge_iff_le, ne_eq, not_true_eq_false, not_false_eq_true, and_self, beq_self_eq_true, Bool.false_eq_true]; try (repeat (first | exact True.intro | exact Wk.refl _ | exact Wk.nilR _ _ _ | exact Wk.nil _ _ | exact Wk.dead _ | exact Wk.bT (by assumption) | exact Wk.bF (by assumption) | exact Wk.eqI (by omega) | exact WkS.refl _ | exact Wks.same _ | exact Wks.nil | exact WkS.nil | refine And.intro ?_ ?_ | refine Wk.aggs ?_ | refine Wk.tups ?_ | refine Wks.cons ?_ ?_ | refine WkS.cons (by first | exact fun _ => rfl | exact fun h => absurd h Bool.false_ne_true) ?_ ?_ ?_ | assumption | exact (fun h => h) | exact (fun h => absurd h Bool.false_ne_true) | intro _)))); simp (disch := omega) only [go_sem, ↓reduceIte, Nat.reduceEqDiff, Nat.reduceMul, Nat.reduceAdd, Nat.reduceSub, Nat.reduceLT, Nat.reduceGT, Nat.reduceLeDiff, Nat.reduceBEq, Int.reduceLT, Int.reduceLE, Int.reduceNe, Int.reduceEq, Int.reduceToNat, Int.reduceAdd, Int.reduceSub, Int.reduceMul, Int.reduceNeg, Nat.reducePow, Int.reducePow, Nat.reduceSubDiff, decide_true, decide_false, reduceCtorEq, or_self, or_false, false_or, or_true, true_or, if_false, gt_iff_lt, ge_iff_le, ne_eq, not_true_eq_false, not_false_eq_true, and_self, beq_self_eq_true, Bool.false_eq_true]; exact .cons (fun _ => rfl) (fun h => h) (fun _ => wk_rels _) (WkS.refl _))
  have hfb := findR_b rels r
  obtain ⟨i, hi⟩ := Int.eq_ofNat_of_zero_le (show 0 ≤ findR rels r by omega)
  have hil : i < rels.length := by omega
  have hre := hroll.2.2.1 i hil
  have hnd := hre.2.2.2.2.1
  have hrl : (nth rels (i : Nat)).ready.length ≤ 5 := by
    have := nodes_len hroll.1 hnd
    omega
  have ha : ∀ t, t + 1 < (nth rels (i : Nat)).ready.length → nth (nth rels (i : Nat)).ready (t : Nat) < nth (nth rels (i : Nat)).ready ((t + 1 : Nat) : Int) := fun t ht => by
    have h3 := (hnd (t + 1) ht).2
    rw [show ((t + 1 : Nat) : Int) - 1 = (t : Nat) by omega] at h3
    have h4 : (0 : Int) < ((t + 1 : Nat) : Int) := by omega
    omega
  have tn := impl_turn of rels act order k r n z d i hil hi (by omega) hlr hlo hrl ha
  have ea : applyR of rels act order k r n z d = (if ¬ (nth rels (i : Nat)).state = 1 then (⟨of, rels, act, order⟩, 4)
      else if k = 3 then (⟨of, rels.set i { nth rels (i : Nat) with ready := putI (nth rels (i : Nat)).ready n }, act, order⟩, 0)
      else if k = 4 then
        if r ≤ act then (⟨of, rels, act, order⟩, 6)
        else if ((nth rels (i : Nat)).ready.length : Int) < of then (⟨of, rels, act, order⟩, 5)
        else (⟨of, rels.set i { nth rels (i : Nat) with state := 2 }, r, order ++ [r]⟩, 0)
      else if k = 5 then (⟨of, rels.set i { nth rels (i : Nat) with state := 3 }, act, order⟩, 0)
      else ((⟨of, rels, act, order⟩ : RollV), (0 : Int))) := by
    unfold applyR; rw [if_neg h1, if_neg h2, if_neg hnone, hi, Int.toNat_natCast]
  have hne : rels ≠ [] := by intro h; rw [h] at hil; simp at hil
  unfold turnO at tn
  rw [ea]
  clear ea
  by_cases h4 : ¬ (nth rels (i : Nat)).state = 1
  · rw [if_pos h4] at tn ⊢
    unfold mineS at tn
    refine runC ?_
    refine r_calln [5, 3, 4] tn ?_
    (refine runC ?_; refine r_callp true (hcopy 1 1) ?_; dsimp only [rollT, rollS]; refine run ?_; refine r_end [6, 7] [.sealR 7] (hs := ?_) (hres := by (simp only [go_sem, ↓reduceIte, Nat.reduceEqDiff, Nat.reduceMul, Nat.reduceAdd, Nat.reduceSub, Nat.reduceLT, Nat.reduceGT, Nat.reduceLeDiff, Nat.reduceBEq, Int.reduceLT, Int.reduceLE, Int.reduceNe, Int.reduceEq, Int.reduceToNat, Int.reduceAdd, Int.reduceSub, Int.reduceMul, Int.reduceNeg, Nat.reducePow, Int.reducePow, Nat.reduceSubDiff, decide_true, decide_false, reduceCtorEq, or_self, or_false, false_or, or_true, true_or, if_false, gt_iff_lt, ge_iff_le, ne_eq, not_true_eq_false, not_false_eq_true, and_self, beq_self_eq_true, Bool.false_eq_true]; try (repeat (first | exact True.intro | exact Wk.refl _ | exact Wk.nilR _ _ _ | exact Wk.nil _ _ | exact Wk.dead _ | exact Wk.bT (by assumption) | exact Wk.bF (by assumption) | exact Wk.eqI (by omega) | exact WkS.refl _ | exact Wks.same _ | exact Wks.nil | exact WkS.nil | refine And.intro ?_ ?_ | refine Wk.aggs ?_ | refine Wk.tups ?_ | refine Wks.cons ?_ ?_ | refine WkS.cons (by first | exact fun _ => rfl | exact fun h => absurd h Bool.false_ne_true) ?_ ?_ ?_ | assumption | exact (fun h => h) | exact (fun h => absurd h Bool.false_ne_true) | intro _)))); simp (disch := omega) only [go_sem, ↓reduceIte, Nat.reduceEqDiff, Nat.reduceMul, Nat.reduceAdd, Nat.reduceSub, Nat.reduceLT, Nat.reduceGT, Nat.reduceLeDiff, Nat.reduceBEq, Int.reduceLT, Int.reduceLE, Int.reduceNe, Int.reduceEq, Int.reduceToNat, Int.reduceAdd, Int.reduceSub, Int.reduceMul, Int.reduceNeg, Nat.reducePow, Int.reducePow, Nat.reduceSubDiff, decide_true, decide_false, reduceCtorEq, or_self, or_false, false_or, or_true, true_or, if_false, gt_iff_lt, ge_iff_le, ne_eq, not_true_eq_false, not_false_eq_true, and_self, beq_self_eq_true, Bool.false_eq_true]; exact .cons (fun _ => rfl) (fun h => h) (fun _ => wk_rels _) (WkS.refl _))
  rw [if_neg h4] at tn ⊢
  by_cases h5 : k = 5
  · rw [if_pos h5] at tn
    rw [if_neg (by omega), if_neg (by omega), if_pos h5]
    unfold mineS at tn
    refine runC ?_
    refine r_calln [5, 3, 4] tn ?_
    dsimp only [rollT, rollS]
    refine run ?_
    refine r_end [3, 4] [.sealR 4] (hs := ?_) (hres := by (simp only [go_sem, ↓reduceIte, Nat.reduceEqDiff, Nat.reduceMul, Nat.reduceAdd, Nat.reduceSub, Nat.reduceLT, Nat.reduceGT, Nat.reduceLeDiff, Nat.reduceBEq, Int.reduceLT, Int.reduceLE, Int.reduceNe, Int.reduceEq, Int.reduceToNat, Int.reduceAdd, Int.reduceSub, Int.reduceMul, Int.reduceNeg, Nat.reducePow, Int.reducePow, Nat.reduceSubDiff, decide_true, decide_false, reduceCtorEq, or_self, or_false, false_or, or_true, true_or, if_false, gt_iff_lt, ge_iff_le, ne_eq, not_true_eq_false, not_false_eq_true, and_self, beq_self_eq_true, Bool.false_eq_true]; try (repeat (first | exact True.intro | exact Wk.refl _ | exact Wk.nilR _ _ _ | exact Wk.nil _ _ | exact Wk.dead _ | exact Wk.bT (by assumption) | exact Wk.bF (by assumption) | exact Wk.eqI (by omega) | exact WkS.refl _ | exact Wks.same _ | exact Wks.nil | exact WkS.nil | refine And.intro ?_ ?_ | refine Wk.aggs ?_ | refine Wk.tups ?_ | refine Wks.cons ?_ ?_ | refine WkS.cons (by first | exact fun _ => rfl | exact fun h => absurd h Bool.false_ne_true) ?_ ?_ ?_ | assumption | exact (fun h => h) | exact (fun h => absurd h Bool.false_ne_true) | intro _))))
    simp (disch := omega) only [go_sem, ↓reduceIte, Nat.reduceEqDiff, Nat.reduceMul, Nat.reduceAdd, Nat.reduceSub, Nat.reduceLT, Nat.reduceGT, Nat.reduceLeDiff, Nat.reduceBEq, Int.reduceLT, Int.reduceLE, Int.reduceNe, Int.reduceEq, Int.reduceToNat, Int.reduceAdd, Int.reduceSub, Int.reduceMul, Int.reduceNeg, Nat.reducePow, Int.reducePow, Nat.reduceSubDiff, decide_true, decide_false, reduceCtorEq, or_self, or_false, false_or, or_true, true_or, if_false, gt_iff_lt, ge_iff_le, ne_eq, not_true_eq_false, not_false_eq_true, and_self, beq_self_eq_true, Bool.false_eq_true]
    exact .cons (fun _ => rfl) (fun h => h) (fun _ => wk_rels _) (WkS.refl _)
  rw [if_neg h5] at tn
  by_cases h3 : k = 3
  · rw [if_pos h3] at tn ⊢
    by_cases h6 : n ∈ (nth rels (i : Nat)).ready
    · rw [if_pos h6] at tn
      rw [putI_mem ha h6]
      rw [show rels.set i { nth rels (i : Nat) with ready := (nth rels (i : Nat)).ready } = rels by rw [nth_nat hil]; exact List.set_getElem_self hil]
      unfold mineS at tn
      refine runC ?_
      refine r_calln [5, 3, 4] tn ?_
      dsimp only [rollT, rollS]
      refine run ?_
      refine r_end [3, 4] [.sealR 4] (hs := ?_) (hres := by (simp only [go_sem, ↓reduceIte, Nat.reduceEqDiff, Nat.reduceMul, Nat.reduceAdd, Nat.reduceSub, Nat.reduceLT, Nat.reduceGT, Nat.reduceLeDiff, Nat.reduceBEq, Int.reduceLT, Int.reduceLE, Int.reduceNe, Int.reduceEq, Int.reduceToNat, Int.reduceAdd, Int.reduceSub, Int.reduceMul, Int.reduceNeg, Nat.reducePow, Int.reducePow, Nat.reduceSubDiff, decide_true, decide_false, reduceCtorEq, or_self, or_false, false_or, or_true, true_or, if_false, gt_iff_lt, ge_iff_le, ne_eq, not_true_eq_false, not_false_eq_true, and_self, beq_self_eq_true, Bool.false_eq_true]; try (repeat (first | exact True.intro | exact Wk.refl _ | exact Wk.nilR _ _ _ | exact Wk.nil _ _ | exact Wk.dead _ | exact Wk.bT (by assumption) | exact Wk.bF (by assumption) | exact Wk.eqI (by omega) | exact WkS.refl _ | exact Wks.same _ | exact Wks.nil | exact WkS.nil | refine And.intro ?_ ?_ | refine Wk.aggs ?_ | refine Wk.tups ?_ | refine Wks.cons ?_ ?_ | refine WkS.cons (by first | exact fun _ => rfl | exact fun h => absurd h Bool.false_ne_true) ?_ ?_ ?_ | assumption | exact (fun h => h) | exact (fun h => absurd h Bool.false_ne_true) | intro _))))
      simp (disch := omega) only [go_sem, ↓reduceIte, Nat.reduceEqDiff, Nat.reduceMul, Nat.reduceAdd, Nat.reduceSub, Nat.reduceLT, Nat.reduceGT, Nat.reduceLeDiff, Nat.reduceBEq, Int.reduceLT, Int.reduceLE, Int.reduceNe, Int.reduceEq, Int.reduceToNat, Int.reduceAdd, Int.reduceSub, Int.reduceMul, Int.reduceNeg, Nat.reducePow, Int.reducePow, Nat.reduceSubDiff, decide_true, decide_false, reduceCtorEq, or_self, or_false, false_or, or_true, true_or, if_false, gt_iff_lt, ge_iff_le, ne_eq, not_true_eq_false, not_false_eq_true, and_self, beq_self_eq_true, Bool.false_eq_true]
      exact .cons (fun _ => rfl) (fun h => h) (fun _ => wk_rels _) (WkS.refl _)
    rw [if_neg h6] at tn
    unfold mineS at tn
    refine runC ?_
    refine r_calln [5, 3, 4] tn ?_
    dsimp only [rollT, rollS]
    rw [rowR_ne 5 0 (ne_set hne i _), isE (ne_set hne i _), List.length_set]
    refine run ?_
    refine r_end [6, 4] [.sealR 4] (hs := ?_) (hres := by (simp only [go_sem, ↓reduceIte, Nat.reduceEqDiff, Nat.reduceMul, Nat.reduceAdd, Nat.reduceSub, Nat.reduceLT, Nat.reduceGT, Nat.reduceLeDiff, Nat.reduceBEq, Int.reduceLT, Int.reduceLE, Int.reduceNe, Int.reduceEq, Int.reduceToNat, Int.reduceAdd, Int.reduceSub, Int.reduceMul, Int.reduceNeg, Nat.reducePow, Int.reducePow, Nat.reduceSubDiff, decide_true, decide_false, reduceCtorEq, or_self, or_false, false_or, or_true, true_or, if_false, gt_iff_lt, ge_iff_le, ne_eq, not_true_eq_false, not_false_eq_true, and_self, beq_self_eq_true, Bool.false_eq_true]; try (repeat (first | exact True.intro | exact Wk.refl _ | exact Wk.nilR _ _ _ | exact Wk.nil _ _ | exact Wk.dead _ | exact Wk.bT (by assumption) | exact Wk.bF (by assumption) | exact Wk.eqI (by omega) | exact WkS.refl _ | exact Wks.same _ | exact Wks.nil | exact WkS.nil | refine And.intro ?_ ?_ | refine Wk.aggs ?_ | refine Wk.tups ?_ | refine Wks.cons ?_ ?_ | refine WkS.cons (by first | exact fun _ => rfl | exact fun h => absurd h Bool.false_ne_true) ?_ ?_ ?_ | assumption | exact (fun h => h) | exact (fun h => absurd h Bool.false_ne_true) | intro _))))
    simp (disch := omega) only [go_sem, ↓reduceIte, Nat.reduceEqDiff, Nat.reduceMul, Nat.reduceAdd, Nat.reduceSub, Nat.reduceLT, Nat.reduceGT, Nat.reduceLeDiff, Nat.reduceBEq, Int.reduceLT, Int.reduceLE, Int.reduceNe, Int.reduceEq, Int.reduceToNat, Int.reduceAdd, Int.reduceSub, Int.reduceMul, Int.reduceNeg, Nat.reducePow, Int.reducePow, Nat.reduceSubDiff, decide_true, decide_false, reduceCtorEq, or_self, or_false, false_or, or_true, true_or, if_false, gt_iff_lt, ge_iff_le, ne_eq, not_true_eq_false, not_false_eq_true, and_self, beq_self_eq_true, Bool.false_eq_true]
    exact .cons (fun _ => rfl) (fun _ => rfl) (fun _ => wk_rels _) (WkS.refl _)
  rw [if_neg h3] at tn ⊢
  rw [if_pos (by omega : k = 4)]
  by_cases h7 : r ≤ act
  · rw [if_pos h7] at tn ⊢
    unfold mineS at tn
    refine runC ?_
    refine r_calln [5, 3, 4] tn ?_
    (refine runC ?_; refine r_callp true (hcopy 1 1) ?_; dsimp only [rollT, rollS]; refine run ?_; refine r_end [6, 7] [.sealR 7] (hs := ?_) (hres := by (simp only [go_sem, ↓reduceIte, Nat.reduceEqDiff, Nat.reduceMul, Nat.reduceAdd, Nat.reduceSub, Nat.reduceLT, Nat.reduceGT, Nat.reduceLeDiff, Nat.reduceBEq, Int.reduceLT, Int.reduceLE, Int.reduceNe, Int.reduceEq, Int.reduceToNat, Int.reduceAdd, Int.reduceSub, Int.reduceMul, Int.reduceNeg, Nat.reducePow, Int.reducePow, Nat.reduceSubDiff, decide_true, decide_false, reduceCtorEq, or_self, or_false, false_or, or_true, true_or, if_false, gt_iff_lt, ge_iff_le, ne_eq, not_true_eq_false, not_false_eq_true, and_self, beq_self_eq_true, Bool.false_eq_true]; try (repeat (first | exact True.intro | exact Wk.refl _ | exact Wk.nilR _ _ _ | exact Wk.nil _ _ | exact Wk.dead _ | exact Wk.bT (by assumption) | exact Wk.bF (by assumption) | exact Wk.eqI (by omega) | exact WkS.refl _ | exact Wks.same _ | exact Wks.nil | exact WkS.nil | refine And.intro ?_ ?_ | refine Wk.aggs ?_ | refine Wk.tups ?_ | refine Wks.cons ?_ ?_ | refine WkS.cons (by first | exact fun _ => rfl | exact fun h => absurd h Bool.false_ne_true) ?_ ?_ ?_ | assumption | exact (fun h => h) | exact (fun h => absurd h Bool.false_ne_true) | intro _)))); simp (disch := omega) only [go_sem, ↓reduceIte, Nat.reduceEqDiff, Nat.reduceMul, Nat.reduceAdd, Nat.reduceSub, Nat.reduceLT, Nat.reduceGT, Nat.reduceLeDiff, Nat.reduceBEq, Int.reduceLT, Int.reduceLE, Int.reduceNe, Int.reduceEq, Int.reduceToNat, Int.reduceAdd, Int.reduceSub, Int.reduceMul, Int.reduceNeg, Nat.reducePow, Int.reducePow, Nat.reduceSubDiff, decide_true, decide_false, reduceCtorEq, or_self, or_false, false_or, or_true, true_or, if_false, gt_iff_lt, ge_iff_le, ne_eq, not_true_eq_false, not_false_eq_true, and_self, beq_self_eq_true, Bool.false_eq_true]; exact .cons (fun _ => rfl) (fun h => h) (fun _ => wk_rels _) (WkS.refl _))
  rw [if_neg h7] at tn ⊢
  by_cases h8 : ((nth rels (i : Nat)).ready.length : Int) < of
  · rw [if_pos h8] at tn ⊢
    unfold mineS at tn
    refine runC ?_
    refine r_calln [5, 3, 4] tn ?_
    (refine runC ?_; refine r_callp true (hcopy 1 1) ?_; dsimp only [rollT, rollS]; refine run ?_; refine r_end [6, 7] [.sealR 7] (hs := ?_) (hres := by (simp only [go_sem, ↓reduceIte, Nat.reduceEqDiff, Nat.reduceMul, Nat.reduceAdd, Nat.reduceSub, Nat.reduceLT, Nat.reduceGT, Nat.reduceLeDiff, Nat.reduceBEq, Int.reduceLT, Int.reduceLE, Int.reduceNe, Int.reduceEq, Int.reduceToNat, Int.reduceAdd, Int.reduceSub, Int.reduceMul, Int.reduceNeg, Nat.reducePow, Int.reducePow, Nat.reduceSubDiff, decide_true, decide_false, reduceCtorEq, or_self, or_false, false_or, or_true, true_or, if_false, gt_iff_lt, ge_iff_le, ne_eq, not_true_eq_false, not_false_eq_true, and_self, beq_self_eq_true, Bool.false_eq_true]; try (repeat (first | exact True.intro | exact Wk.refl _ | exact Wk.nilR _ _ _ | exact Wk.nil _ _ | exact Wk.dead _ | exact Wk.bT (by assumption) | exact Wk.bF (by assumption) | exact Wk.eqI (by omega) | exact WkS.refl _ | exact Wks.same _ | exact Wks.nil | exact WkS.nil | refine And.intro ?_ ?_ | refine Wk.aggs ?_ | refine Wk.tups ?_ | refine Wks.cons ?_ ?_ | refine WkS.cons (by first | exact fun _ => rfl | exact fun h => absurd h Bool.false_ne_true) ?_ ?_ ?_ | assumption | exact (fun h => h) | exact (fun h => absurd h Bool.false_ne_true) | intro _)))); simp (disch := omega) only [go_sem, ↓reduceIte, Nat.reduceEqDiff, Nat.reduceMul, Nat.reduceAdd, Nat.reduceSub, Nat.reduceLT, Nat.reduceGT, Nat.reduceLeDiff, Nat.reduceBEq, Int.reduceLT, Int.reduceLE, Int.reduceNe, Int.reduceEq, Int.reduceToNat, Int.reduceAdd, Int.reduceSub, Int.reduceMul, Int.reduceNeg, Nat.reducePow, Int.reducePow, Nat.reduceSubDiff, decide_true, decide_false, reduceCtorEq, or_self, or_false, false_or, or_true, true_or, if_false, gt_iff_lt, ge_iff_le, ne_eq, not_true_eq_false, not_false_eq_true, and_self, beq_self_eq_true, Bool.false_eq_true]; exact .cons (fun _ => rfl) (fun h => h) (fun _ => wk_rels _) (WkS.refl _))
  rw [if_neg h8] at tn ⊢
  unfold mineS at tn
  refine runC ?_
  refine r_calln [5, 3, 4] tn ?_
  dsimp only [rollT, rollS]
  rw [rowR_ne 5 0 (ne_set hne i _), isE (ne_set hne i _), List.length_set, rowR_ne 1 1 (ne_app order _), live_app]
  refine run ?_
  refine r_end [3, 6] [] (hs := ?_) (hres := by (simp only [go_sem, ↓reduceIte, Nat.reduceEqDiff, Nat.reduceMul, Nat.reduceAdd, Nat.reduceSub, Nat.reduceLT, Nat.reduceGT, Nat.reduceLeDiff, Nat.reduceBEq, Int.reduceLT, Int.reduceLE, Int.reduceNe, Int.reduceEq, Int.reduceToNat, Int.reduceAdd, Int.reduceSub, Int.reduceMul, Int.reduceNeg, Nat.reducePow, Int.reducePow, Nat.reduceSubDiff, decide_true, decide_false, reduceCtorEq, or_self, or_false, false_or, or_true, true_or, if_false, gt_iff_lt, ge_iff_le, ne_eq, not_true_eq_false, not_false_eq_true, and_self, beq_self_eq_true, Bool.false_eq_true]; try (repeat (first | exact True.intro | exact Wk.refl _ | exact Wk.nilR _ _ _ | exact Wk.nil _ _ | exact Wk.dead _ | exact Wk.bT (by assumption) | exact Wk.bF (by assumption) | exact Wk.eqI (by omega) | exact WkS.refl _ | exact Wks.same _ | exact Wks.nil | exact WkS.nil | refine And.intro ?_ ?_ | refine Wk.aggs ?_ | refine Wk.tups ?_ | refine Wks.cons ?_ ?_ | refine WkS.cons (by first | exact fun _ => rfl | exact fun h => absurd h Bool.false_ne_true) ?_ ?_ ?_ | assumption | exact (fun h => h) | exact (fun h => absurd h Bool.false_ne_true) | intro _))))
  simp (disch := omega) only [go_sem, ↓reduceIte, Nat.reduceEqDiff, Nat.reduceMul, Nat.reduceAdd, Nat.reduceSub, Nat.reduceLT, Nat.reduceGT, Nat.reduceLeDiff, Nat.reduceBEq, Int.reduceLT, Int.reduceLE, Int.reduceNe, Int.reduceEq, Int.reduceToNat, Int.reduceAdd, Int.reduceSub, Int.reduceMul, Int.reduceNeg, Nat.reducePow, Int.reducePow, Nat.reduceSubDiff, decide_true, decide_false, reduceCtorEq, or_self, or_false, false_or, or_true, true_or, if_false, gt_iff_lt, ge_iff_le, ne_eq, not_true_eq_false, not_false_eq_true, and_self, beq_self_eq_true, Bool.false_eq_true]
  exact .cons (fun _ => rfl) (fun _ => rfl) (fun _ => wk_rels _) (WkS.refl _)

end Go.TL
