/- Lists of helds of one's own: copies, and parts that are put, by both sides. No conditions but those that are written. -/
import Derived.Test.YtneiifghegdfgaaP1
import Derived.Test.YtneiifghegdfgaaC1
namespace Go.TL
set_option linter.unusedSimpArgs false
open Go.Proofs Go.RowKit
attribute [local irreducible] wpOpsT wpT EndT Ex.seq Ex.block W

theorem helds_len {l : List HeldV} (h : totHS l ≤ 1048576) : l.length ≤ 1048576 := by
  have := sum_nn totH_nn l
  unfold totHS at h
  omega
theorem parts_len {l : List HeldV} (h : totHS l ≤ 1048576) {i : Nat} (hi : i < l.length) : (nth l (i : Nat)).parts.length ≤ 1048576 := by
  have h1 := sum_take totH hi
  have h2 := sum_le totH_nn l (i + 1)
  have h3 := sum_nn totH_nn (l.take i)
  have h4 := sum_nn szS_nn (nth l (i : Nat)).parts
  have h5 : totH (nth l (i : Nat)) = (nth l (i : Nat)).dig.size + ((nth l (i : Nat)).parts.length + sumI szS (nth l (i : Nat)).parts) := rfl
  unfold totHS at h
  omega

set_option linter.unusedSimpArgs false in
theorem spec_l14CopyO (l : List HeldV) (hpre : totHS l ≤ 1048576) : CallsT Try.prog [] F.spec_l14Copy [.sl false 1 l.length 4 (rowT heldC l)] (.ref 0 [] 0 l.length) [⟨4, true, rowT heldO l⟩] := by
  have hll := helds_len hpre
  refine fnT C.spec_l14Copy ?_
  refine run ?_
  refine r_for l.length (fun i => [(0, .sl false 1 l.length 4 (rowT heldC l)), (3, .ref 0 [] 0 i), (4, .v (.int .i64 i))]) (fun i => [⟨4, true, rowT heldO (l.take i)⟩]) (fun _ => True) [0] [] trivial Gc.of (fun i hi _ => ?_) (fun _ => ?_)
  · have hpl := parts_len hpre hi
    have ht : (l.take i).length = i := by rw [List.length_take]; omega
    refine runC ?_
    refine r_callp true (spec_l9CopyO (nth l (i : Nat)).size (nth l (i : Nat)).dig (nth l (i : Nat)).parts (by omega)) ?_
    refine run ?_
    refine r_apw ?_
    refine run ?_
    refine ⟨[4], [.nest 3 [] (i * 4 + 3) 1], Gc.of (hs := ?_), trivial⟩
    rw [take_nth hi, rowT_append, rowT_1]
    (simp (disch := omega) only [go_sem, ↓reduceIte, Nat.reduceEqDiff, Nat.reduceMul, Nat.reduceAdd, Nat.reduceSub, Nat.reduceLT, Nat.reduceGT, Nat.reduceLeDiff, Nat.reduceBEq, Int.reduceLT, Int.reduceLE, Int.reduceNe, Int.reduceEq, Int.reduceToNat, Int.reduceAdd, Int.reduceSub, Int.reduceMul, Int.reduceNeg, Nat.reducePow, Int.reducePow, Nat.reduceSubDiff, decide_true, decide_false, reduceCtorEq, or_self, or_false, false_or, or_true, true_or, if_false, gt_iff_lt, ge_iff_le, ne_eq, not_true_eq_false, not_false_eq_true, and_self, beq_self_eq_true, Bool.false_eq_true, List.append_assoc]; exact WkS.refl _)
  · rw [List.take_length]
    refine run ?_
    exact r_end [0] []

set_option linter.unusedSimpArgs false in
theorem impl_copyHeldsO (l : List HeldV) (hpre : totHS l ≤ 1048576) : CallsT Try.prog [] F.impl_copyHelds [.sl false 1 l.length 4 (rowT heldC l)] (.ref 0 [] 0 l.length) [⟨4, true, rowT heldO l⟩] := by
  have hll := helds_len hpre
  refine fnT C.impl_copyHelds ?_
  refine run ?_
  refine r_for l.length (fun i => [(3, .ref 0 [] 0 i), (7, .sl false 1 l.length 4 (rowT heldC l)), (8, .v (.int .i64 l.length)), (9, .v (.int .i64 i))]) (fun i => [⟨4, true, rowT heldO (l.take i)⟩]) (fun _ => True) [0] [] trivial Gc.of (fun i hi _ => ?_) (fun _ => ?_)
  · have hpl := parts_len hpre hi
    have ht : (l.take i).length = i := by rw [List.length_take]; omega
    refine runC ?_
    refine r_callp true (impl_copyParcelO (nth l (i : Nat)).size (nth l (i : Nat)).dig (nth l (i : Nat)).parts (by omega)) ?_
    refine run ?_
    refine r_apw ?_
    refine run ?_
    refine ⟨[5], [.nest 4 [] (i * 4 + 3) 2], Gc.of (hs := ?_), trivial⟩
    rw [take_nth hi, rowT_append, rowT_1]
    (simp (disch := omega) only [go_sem, ↓reduceIte, Nat.reduceEqDiff, Nat.reduceMul, Nat.reduceAdd, Nat.reduceSub, Nat.reduceLT, Nat.reduceGT, Nat.reduceLeDiff, Nat.reduceBEq, Int.reduceLT, Int.reduceLE, Int.reduceNe, Int.reduceEq, Int.reduceToNat, Int.reduceAdd, Int.reduceSub, Int.reduceMul, Int.reduceNeg, Nat.reducePow, Int.reducePow, Nat.reduceSubDiff, decide_true, decide_false, reduceCtorEq, or_self, or_false, false_or, or_true, true_or, if_false, gt_iff_lt, ge_iff_le, ne_eq, not_true_eq_false, not_false_eq_true, and_self, beq_self_eq_true, Bool.false_eq_true, List.append_assoc]; exact WkS.refl _)
  · rw [List.take_length]
    refine run ?_
    exact r_end [0] []

theorem row_setH {α : Type} (enc : α → List T) (l : List α) (i : Nat) (x : α) (hi : i < l.length) : rowT enc (l.set i x) = rowT enc (l.take i) ++ (enc x ++ rowT enc (l.drop (i + 1))) := by
  rw [List.set_eq_take_append_cons_drop, if_pos hi, rowT_append, rowT_cons]

/-- What putting a part does to a list, where the list is right. -/
def putH (l : List HeldV) (r i : Int) (s : ByteArray) : List HeldV × Int :=
  if findH l r < 0 then (l, 1)
  else if (putP (nth l (findH l r)).size (nth l (findH l r)).dig (nth l (findH l r)).parts i s).2 = 0 then
    (l.set (findH l r).toNat ⟨(nth l (findH l r)).rel, (putP (nth l (findH l r)).size (nth l (findH l r)).dig (nth l (findH l r)).parts i s).1.size, (putP (nth l (findH l r)).size (nth l (findH l r)).dig (nth l (findH l r)).parts i s).1.dig, (putP (nth l (findH l r)).size (nth l (findH l r)).dig (nth l (findH l r)).parts i s).1.parts⟩, 0)
  else (l, (putP (nth l (findH l r)).size (nth l (findH l r)).dig (nth l (findH l r)).parts i s).2)
theorem putP_ne {sz : Int} {d : ByteArray} {l : List ByteArray} {i : Int} {s : ByteArray} (h : (putP sz d l i s).2 = 0) : (putP sz d l i s).1.parts ≠ [] := by
  unfold putP at h ⊢
  split at h
  · rename_i h1
    rw [if_pos h1]
    split at h
    · cases h
    · rename_i h2
      rw [if_neg h2]
      split at h
      · cases h
      · rename_i h3
        rw [if_neg h3]
        dsimp only
        refine ne_setN ?_ _ _
        intro hl
        have := h1.2.1
        rw [hl] at this
        simp at this
        omega
  · cases h

theorem spec_HeldPutB (k : Nat) (l : List HeldV) (r i : Int) (s : ByteArray) (hb : bndHS l) (hbad : ¬ heldsP l) : CallsT Try.prog [] F.spec_HeldPut [.sl false k l.length 4 (rowT heldC l), .v (.int .i64 r), .v (.int .i64 i), .v (.string s)] (.tup [.sl false 0 0 4 [], .v (.int .i64 1)]) [] := by
  refine fnT C.spec_HeldPut ?_
  refine run ?_
  exact r_end [] [0]

theorem impl_HeldPutB (k : Nat) (l : List HeldV) (r i : Int) (s : ByteArray) (hb : bndHS l) (hbad : ¬ heldsP l) : CallsT Try.prog [] F.impl_HeldPut [.sl false k l.length 4 (rowT heldC l), .v (.int .i64 r), .v (.int .i64 i), .v (.string s)] (.tup [.sl false 0 0 4 [], .v (.int .i64 1)]) [] := by
  refine fnT C.impl_HeldPut ?_
  refine run ?_
  exact r_end [] []

set_option linter.unusedSimpArgs false in
theorem spec_HeldPutO (l : List HeldV) (r i : Int) (s : ByteArray) (hb : bndHS l) (hpre : totHS l ≤ 1048576) (hok : heldsP l) : CallsT Try.prog [] F.spec_HeldPut [.sl false 1 l.length 4 (rowT heldC l), .v (.int .i64 r), .v (.int .i64 i), .v (.string s)] (.tup [.ref 0 [] 0 (putH l r i s).1.length, .v (.int .i64 ((putH l r i s).2))]) [⟨4, true, rowT heldO (putH l r i s).1⟩] := by
  have hll := helds_len hpre
  have c1 := spec_HeldsOk 1 l hb
  rw [decide_eq_true hok] at c1
  have hfb := find_b l r
  refine fnT C.spec_HeldPut ?_
  refine runC ?_
  refine r_callp true c1 ?_
  refine runC ?_
  refine r_callp true (spec_l14CopyO l hpre) ?_
  refine run ?_
  refine r_ifd (fun h => ?_) (fun h => ?_)
  · rw [show putH l r i s = (l, 1) from if_pos h]
    refine run ?_
    exact r_end [0] []
  have ea : putH l r i s = _ := if_neg h
  generalize findH l r = fi at *
  obtain ⟨n, rfl⟩ := Int.eq_ofNat_of_zero_le (show 0 ≤ fi by omega)
  have hn : n < l.length := by omega
  have hpl := parts_len hpre hn
  have hput := spec_ParcelPut (nth l (n : Nat)).size (nth l (n : Nat)).dig (nth l (n : Nat)).parts i s (by omega)
  have hpn := putP_ne (sz := (nth l (n : Nat)).size) (d := (nth l (n : Nat)).dig) (l := (nth l (n : Nat)).parts) (i := i) (s := s)
  rw [ea]
  clear ea
  generalize putP (nth l (n : Nat)).size (nth l (n : Nat)).dig (nth l (n : Nat)).parts i s = p at *
  dsimp only [parcT, parcS] at hput
  refine runC ?_
  refine r_callp true hput ?_
  refine run ?_
  refine r_ifd (fun h2 => ?_) (fun h2 => ?_)
  · have hne := hpn h2
    rw [if_pos h2, Int.toNat_natCast, List.length_set, row_split (enc := heldO) l n hn]
    have ht : (l.take n).length = n := by rw [List.length_take]; omega
    dsimp only [heldO, List.cons_append, List.nil_append]
    rw [rowR_ne 1 1 hne, isN hne]
    refine run ?_
    refine r_stw ?_
    refine run ?_
    rw [row_setH heldO l n _ hn]
    refine r_end [3] [.nest 0 [] (n * 4 + 3) 1] (hs := ?_) (hres := by (simp (disch := omega) only [go_sem, ↓reduceIte, Nat.reduceEqDiff, Nat.reduceMul, Nat.reduceAdd, Nat.reduceSub, Nat.reduceLT, Nat.reduceGT, Nat.reduceLeDiff, Nat.reduceBEq, Int.reduceLT, Int.reduceLE, Int.reduceNe, Int.reduceEq, Int.reduceToNat, Int.reduceAdd, Int.reduceSub, Int.reduceMul, Int.reduceNeg, Nat.reducePow, Int.reducePow, Nat.reduceSubDiff, decide_true, decide_false, reduceCtorEq, or_self, or_false, false_or, or_true, true_or, if_false, gt_iff_lt, ge_iff_le, ne_eq, not_true_eq_false, not_false_eq_true, and_self, beq_self_eq_true, Bool.false_eq_true]; try (repeat (first | exact True.intro | exact Wk.refl _ | exact Wk.nilR _ _ _ | exact Wk.nil _ _ | exact Wk.dead _ | exact Wk.bT (by assumption) | exact Wk.bF (by assumption) | exact Wk.eqI (by omega) | exact WkS.refl _ | exact Wks.same _ | exact Wks.nil | exact WkS.nil | refine And.intro ?_ ?_ | refine Wk.aggs ?_ | refine Wk.tups ?_ | refine Wks.cons ?_ ?_ | refine WkS.cons (by first | exact fun _ => rfl | exact fun h => absurd h Bool.false_ne_true) ?_ ?_ ?_ | assumption | exact (fun h => h) | exact (fun h => absurd h Bool.false_ne_true) | intro _))))
    dsimp only [heldO]
    (simp (disch := omega) only [go_sem, ↓reduceIte, Nat.reduceEqDiff, Nat.reduceMul, Nat.reduceAdd, Nat.reduceSub, Nat.reduceLT, Nat.reduceGT, Nat.reduceLeDiff, Nat.reduceBEq, Int.reduceLT, Int.reduceLE, Int.reduceNe, Int.reduceEq, Int.reduceToNat, Int.reduceAdd, Int.reduceSub, Int.reduceMul, Int.reduceNeg, Nat.reducePow, Int.reducePow, Nat.reduceSubDiff, decide_true, decide_false, reduceCtorEq, or_self, or_false, false_or, or_true, true_or, if_false, gt_iff_lt, ge_iff_le, ne_eq, not_true_eq_false, not_false_eq_true, and_self, beq_self_eq_true, Bool.false_eq_true, List.append_assoc]; exact WkS.refl _)
  · rw [if_neg h2]
    refine run ?_
    exact r_end [0] []

set_option linter.unusedSimpArgs false in
theorem impl_HeldPutO (l : List HeldV) (r i : Int) (s : ByteArray) (hb : bndHS l) (hpre : totHS l ≤ 1048576) (hok : heldsP l) : CallsT Try.prog [] F.impl_HeldPut [.sl false 1 l.length 4 (rowT heldC l), .v (.int .i64 r), .v (.int .i64 i), .v (.string s)] (.tup [.ref 0 [] 0 (putH l r i s).1.length, .v (.int .i64 ((putH l r i s).2))]) [⟨4, true, rowT heldO (putH l r i s).1⟩] := by
  have hll := helds_len hpre
  have c1 := impl_HeldsOk 1 l hb
  rw [decide_eq_true hok] at c1
  have hfb := find_b l r
  refine fnT C.impl_HeldPut ?_
  refine runC ?_
  refine r_callp true c1 ?_
  refine runC ?_
  refine r_callp true (impl_copyHeldsO l hpre) ?_
  refine run ?_
  refine r_ifd (fun h => ?_) (fun h => ?_)
  · rw [show putH l r i s = (l, 1) from if_pos h]
    refine run ?_
    exact r_end [0] []
  have ea : putH l r i s = _ := if_neg h
  generalize findH l r = fi at *
  obtain ⟨n, rfl⟩ := Int.eq_ofNat_of_zero_le (show 0 ≤ fi by omega)
  have hn : n < l.length := by omega
  have hpl := parts_len hpre hn
  have hput := impl_ParcelPut (nth l (n : Nat)).size (nth l (n : Nat)).dig (nth l (n : Nat)).parts i s (by omega)
  have hpn := putP_ne (sz := (nth l (n : Nat)).size) (d := (nth l (n : Nat)).dig) (l := (nth l (n : Nat)).parts) (i := i) (s := s)
  rw [ea]
  clear ea
  generalize putP (nth l (n : Nat)).size (nth l (n : Nat)).dig (nth l (n : Nat)).parts i s = p at *
  dsimp only [parcT, parcS] at hput
  refine runC ?_
  refine r_callp true hput ?_
  refine run ?_
  refine r_ifd (fun h2 => ?_) (fun h2 => ?_)
  · have hne := hpn h2
    rw [if_pos h2, Int.toNat_natCast, List.length_set, row_split (enc := heldO) l n hn]
    have ht : (l.take n).length = n := by rw [List.length_take]; omega
    dsimp only [heldO, List.cons_append, List.nil_append]
    rw [rowR_ne 1 1 hne, isN hne]
    refine run ?_
    refine r_stw ?_
    refine run ?_
    rw [row_setH heldO l n _ hn]
    refine r_end [3] [.nest 0 [] (n * 4 + 3) 1] (hs := ?_) (hres := by (simp (disch := omega) only [go_sem, ↓reduceIte, Nat.reduceEqDiff, Nat.reduceMul, Nat.reduceAdd, Nat.reduceSub, Nat.reduceLT, Nat.reduceGT, Nat.reduceLeDiff, Nat.reduceBEq, Int.reduceLT, Int.reduceLE, Int.reduceNe, Int.reduceEq, Int.reduceToNat, Int.reduceAdd, Int.reduceSub, Int.reduceMul, Int.reduceNeg, Nat.reducePow, Int.reducePow, Nat.reduceSubDiff, decide_true, decide_false, reduceCtorEq, or_self, or_false, false_or, or_true, true_or, if_false, gt_iff_lt, ge_iff_le, ne_eq, not_true_eq_false, not_false_eq_true, and_self, beq_self_eq_true, Bool.false_eq_true]; try (repeat (first | exact True.intro | exact Wk.refl _ | exact Wk.nilR _ _ _ | exact Wk.nil _ _ | exact Wk.dead _ | exact Wk.bT (by assumption) | exact Wk.bF (by assumption) | exact Wk.eqI (by omega) | exact WkS.refl _ | exact Wks.same _ | exact Wks.nil | exact WkS.nil | refine And.intro ?_ ?_ | refine Wk.aggs ?_ | refine Wk.tups ?_ | refine Wks.cons ?_ ?_ | refine WkS.cons (by first | exact fun _ => rfl | exact fun h => absurd h Bool.false_ne_true) ?_ ?_ ?_ | assumption | exact (fun h => h) | exact (fun h => absurd h Bool.false_ne_true) | intro _))))
    dsimp only [heldO]
    (simp (disch := omega) only [go_sem, ↓reduceIte, Nat.reduceEqDiff, Nat.reduceMul, Nat.reduceAdd, Nat.reduceSub, Nat.reduceLT, Nat.reduceGT, Nat.reduceLeDiff, Nat.reduceBEq, Int.reduceLT, Int.reduceLE, Int.reduceNe, Int.reduceEq, Int.reduceToNat, Int.reduceAdd, Int.reduceSub, Int.reduceMul, Int.reduceNeg, Nat.reducePow, Int.reducePow, Nat.reduceSubDiff, decide_true, decide_false, reduceCtorEq, or_self, or_false, false_or, or_true, true_or, if_false, gt_iff_lt, ge_iff_le, ne_eq, not_true_eq_false, not_false_eq_true, and_self, beq_self_eq_true, Bool.false_eq_true, List.append_assoc]; exact WkS.refl _)
  · rw [if_neg h2]
    refine run ?_
    exact r_end [0] []

end Go.TL
