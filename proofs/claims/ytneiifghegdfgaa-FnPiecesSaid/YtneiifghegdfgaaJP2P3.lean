/- Texts joined. No conditions but those that are written. -/
import Derived.Test.YtneiifghegdfgaaP1
import Derived.Test.YtneiifghegdfgaaC1
/- Lists of helds of one's own: copies, and parts that are put, by both sides. No conditions but those that are written. -/
namespace Go.TL
set_option linter.unusedSimpArgs false
open Go.Proofs Go.RowKit
attribute [local irreducible] wpOpsT wpT EndT Ex.seq Ex.block W

theorem helds_len {l : List HeldV} (h : totHS l ≤ 1048576) : l.length ≤ 1048576 := by
  have := sum_nn totH_nn l
  unfold totHS at h
  omega
theorem parts_len {l : List HeldV} (h : totHS l ≤ 1048576) {i : Nat} (hi : i < l.length) : (nth l (i : Nat)).parts.length ≤ 1048576 := by
  have h1 := sum_take totH hi
  have h2 := sum_le totH_nn l (i + 1)
  have h3 := sum_nn totH_nn (l.take i)
  have h4 := sum_nn szS_nn (nth l (i : Nat)).parts
  have h5 : totH (nth l (i : Nat)) = (nth l (i : Nat)).dig.size + ((nth l (i : Nat)).parts.length + sumI szS (nth l (i : Nat)).parts) := rfl
  unfold totHS at h
  omega

set_option linter.unusedSimpArgs false in
theorem spec_l14CopyO (l : List HeldV) (hpre : totHS l ≤ 1048576) : CallsT Try.prog [] F.spec_l14Copy [.sl false 1 l.length 4 (rowT heldC l)] (.ref 0 [] 0 l.length) [⟨4, true, rowT heldO l⟩] := by
  have hll := helds_len hpre
  refine fnT C.spec_l14Copy ?_
  refine run ?_
  refine r_for l.length (fun i => [(0, .sl false 1 l.length 4 (rowT heldC l)), (3, .ref 0 [] 0 i), (4, .v (.int .i64 i))]) (fun i => [⟨4, true, rowT heldO (l.take i)⟩]) (fun _ => True) [0] [] trivial Gc.of (fun i hi _ => ?_) (fun _ => ?_)
  · have hpl := parts_len hpre hi
    have ht : (l.take i).length = i := by rw [List.length_take]; omega
    refine runC ?_
    refine r_callp true (spec_l9CopyO (nth l (i : Nat)).size (nth l (i : Nat)).dig (nth l (i : Nat)).parts (by omega)) ?_
    refine run ?_
    refine r_apw ?_
    refine run ?_
    refine ⟨[4], [.nest 3 [] (i * 4 + 3) 1], Gc.of (hs := ?_), trivial⟩
    rw [take_nth hi, rowT_append, rowT_1]
    (simp (disch := omega) only [go_sem, ↓reduceIte, Nat.reduceEqDiff, Nat.reduceMul, Nat.reduceAdd, Nat.reduceSub, Nat.reduceLT, Nat.reduceGT, Nat.reduceLeDiff, Nat.reduceBEq, Int.reduceLT, Int.reduceLE, Int.reduceNe, Int.reduceEq, Int.reduceToNat, Int.reduceAdd, Int.reduceSub, Int.reduceMul, Int.reduceNeg, Nat.reducePow, Int.reducePow, Nat.reduceSubDiff, decide_true, decide_false, reduceCtorEq, or_self, or_false, false_or, or_true, true_or, if_false, gt_iff_lt, ge_iff_le, ne_eq, not_true_eq_false, not_false_eq_true, and_self, beq_self_eq_true, Bool.false_eq_true, List.append_assoc]; exact WkS.refl _)
  · rw [List.take_length]
    refine run ?_
    exact r_end [0] []

set_option linter.unusedSimpArgs false in
theorem impl_copyHeldsO (l : List HeldV) (hpre : totHS l ≤ 1048576) : CallsT Try.prog [] F.impl_copyHelds [.sl false 1 l.length 4 (rowT heldC l)] (.ref 0 [] 0 l.length) [⟨4, true, rowT heldO l⟩] := by
  have hll := helds_len hpre
  refine fnT C.impl_copyHelds ?_
  refine run ?_
  refine r_for l.length (fun i => [(3, .ref 0 [] 0 i), (7, .sl false 1 l.length 4 (rowT heldC l)), (8, .v (.int .i64 l.length)), (9, .v (.int .i64 i))]) (fun i => [⟨4, true, rowT heldO (l.take i)⟩]) (fun _ => True) [0] [] trivial Gc.of (fun i hi _ => ?_) (fun _ => ?_)
  · have hpl := parts_len hpre hi
    have ht : (l.take i).length = i := by rw [List.length_take]; omega
    refine runC ?_
    refine r_callp true (impl_copyParcelO (nth l (i : Nat)).size (nth l (i : Nat)).dig (nth l (i : Nat)).parts (by omega)) ?_
    refine run ?_
    refine r_apw ?_
    refine run ?_
    refine ⟨[5], [.nest 4 [] (i * 4 + 3) 2], Gc.of (hs := ?_), trivial⟩
    rw [take_nth hi, rowT_append, rowT_1]
    (simp (disch := omega) only [go_sem, ↓reduceIte, Nat.reduceEqDiff, Nat.reduceMul, Nat.reduceAdd, Nat.reduceSub, Nat.reduceLT, Nat.reduceGT, Nat.reduceLeDiff, Nat.reduceBEq, Int.reduceLT, Int.reduceLE, Int.reduceNe, Int.reduceEq, Int.reduceToNat, Int.reduceAdd, Int.reduceSub, Int.reduceMul, Int.reduceNeg, Nat.reducePow, Int.reducePow, Nat.reduceSubDiff, decide_true, decide_false, reduceCtorEq, or_self, or_false, false_or, or_true, true_or, if_false, gt_iff_lt, ge_iff_le, ne_eq, not_true_eq_false, not_false_eq_true, and_self, beq_self_eq_true, Bool.false_eq_true, List.append_assoc]; exact WkS.refl _)
  · rw [List.take_length]
    refine run ?_
    exact r_end [0] []

theorem row_setH {α : Type} (enc : α → List T) (l : List α) (i : Nat) (x : α) (hi : i < l.length) : rowT enc (l.set i x) = rowT enc (l.take i) ++ (enc x ++ rowT enc (l.drop (i + 1))) := by
  rw [List.set_eq_take_append_cons_drop, if_pos hi, rowT_append, rowT_cons]

/-- What putting a part does to a list, where the list is right. -/
def putH (l : List HeldV) (r i : Int) (s : ByteArray) : List HeldV × Int :=
  if findH l r < 0 then (l, 1)
  else if (putP (nth l (findH l r)).size (nth l (findH l r)).dig (nth l (findH l r)).parts i s).2 = 0 then
    (l.set (findH l r).toNat ⟨(nth l (findH l r)).rel, (putP (nth l (findH l r)).size (nth l (findH l r)).dig (nth l (findH l r)).parts i s).1.size, (putP (nth l (findH l r)).size (nth l (findH l r)).dig (nth l (findH l r)).parts i s).1.dig, (putP (nth l (findH l r)).size (nth l (findH l r)).dig (nth l (findH l r)).parts i s).1.parts⟩, 0)
  else (l, (putP (nth l (findH l r)).size (nth l (findH l r)).dig (nth l (findH l r)).parts i s).2)
theorem putP_ne {sz : Int} {d : ByteArray} {l : List ByteArray} {i : Int} {s : ByteArray} (h : (putP sz d l i s).2 = 0) : (putP sz d l i s).1.parts ≠ [] := by
  unfold putP at h ⊢
  split at h
  · rename_i h1
    rw [if_pos h1]
    split at h
    · cases h
    · rename_i h2
      rw [if_neg h2]
      split at h
      · cases h
      · rename_i h3
        rw [if_neg h3]
        dsimp only
        refine ne_setN ?_ _ _
        intro hl
        have := h1.2.1
        rw [hl] at this
        simp at this
        omega
  · cases h

theorem spec_HeldPutB (k : Nat) (l : List HeldV) (r i : Int) (s : ByteArray) (hb : bndHS l) (hbad : ¬ heldsP l) : CallsT Try.prog [] F.spec_HeldPut [.sl false k l.length 4 (rowT heldC l), .v (.int .i64 r), .v (.int .i64 i), .v (.string s)] (.tup [.sl false 0 0 4 [], .v (.int .i64 1)]) [] := by
  refine fnT C.spec_HeldPut ?_
  refine run ?_
  exact r_end [] [0]

theorem impl_HeldPutB (k : Nat) (l : List HeldV) (r i : Int) (s : ByteArray) (hb : bndHS l) (hbad : ¬ heldsP l) : CallsT Try.prog [] F.impl_HeldPut [.sl false k l.length 4 (rowT heldC l), .v (.int .i64 r), .v (.int .i64 i), .v (.string s)] (.tup [.sl false 0 0 4 [], .v (.int .i64 1)]) [] := by
  refine fnT C.impl_HeldPut ?_
  refine run ?_
  exact r_end [] []

set_option linter.unusedSimpArgs false in
theorem spec_HeldPutO (l : List HeldV) (r i : Int) (s : ByteArray) (hb : bndHS l) (hpre : totHS l ≤ 1048576) (hok : heldsP l) : CallsT Try.prog [] F.spec_HeldPut [.sl false 1 l.length 4 (rowT heldC l), .v (.int .i64 r), .v (.int .i64 i), .v (.string s)] (.tup [.ref 0 [] 0 (putH l r i s).1.length, .v (.int .i64 ((putH l r i s).2))]) [⟨4, true, rowT heldO (putH l r i s).1⟩] := by
  have hll := helds_len hpre
  have c1 := spec_HeldsOk 1 l hb
  rw [decide_eq_true hok] at c1
  have hfb := find_b l r
  refine fnT C.spec_HeldPut ?_
  refine runC ?_
  refine r_callp true c1 ?_
  refine runC ?_
  refine r_callp true (spec_l14CopyO l hpre) ?_
  refine run ?_
  refine r_ifd (fun h => ?_) (fun h => ?_)
  · rw [show putH l r i s = (l, 1) from if_pos h]
    refine run ?_
    exact r_end [0] []
  have ea : putH l r i s = _ := if_neg h
  generalize findH l r = fi at *
  obtain ⟨n, rfl⟩ := Int.eq_ofNat_of_zero_le (show 0 ≤ fi by omega)
  have hn : n < l.length := by omega
  have hpl := parts_len hpre hn
  have hput := spec_ParcelPut (nth l (n : Nat)).size (nth l (n : Nat)).dig (nth l (n : Nat)).parts i s (by omega)
  have hpn := putP_ne (sz := (nth l (n : Nat)).size) (d := (nth l (n : Nat)).dig) (l := (nth l (n : Nat)).parts) (i := i) (s := s)
  rw [ea]
  clear ea
  generalize putP (nth l (n : Nat)).size (nth l (n : Nat)).dig (nth l (n : Nat)).parts i s = p at *
  dsimp only [parcT, parcS] at hput
  refine runC ?_
  refine r_callp true hput ?_
  refine run ?_
  refine r_ifd (fun h2 => ?_) (fun h2 => ?_)
  · have hne := hpn h2
    rw [if_pos h2, Int.toNat_natCast, List.length_set, row_split (enc := heldO) l n hn]
    have ht : (l.take n).length = n := by rw [List.length_take]; omega
    dsimp only [heldO, List.cons_append, List.nil_append]
    rw [rowR_ne 1 1 hne, isN hne]
    refine run ?_
    refine r_stw ?_
    refine run ?_
    rw [row_setH heldO l n _ hn]
    refine r_end [3] [.nest 0 [] (n * 4 + 3) 1] (hs := ?_) (hres := by (simp (disch := omega) only [go_sem, ↓reduceIte, Nat.reduceEqDiff, Nat.reduceMul, Nat.reduceAdd, Nat.reduceSub, Nat.reduceLT, Nat.reduceGT, Nat.reduceLeDiff, Nat.reduceBEq, Int.reduceLT, Int.reduceLE, Int.reduceNe, Int.reduceEq, Int.reduceToNat, Int.reduceAdd, Int.reduceSub, Int.reduceMul, Int.reduceNeg, Nat.reducePow, Int.reducePow, Nat.reduceSubDiff, decide_true, decide_false, reduceCtorEq, or_self, or_false, false_or, or_true, true_or, if_false, gt_iff_lt, ge_iff_le, ne_eq, not_true_eq_false, not_false_eq_true, and_self, beq_self_eq_true, Bool.false_eq_true]; try (repeat (first | exact True.intro | exact Wk.refl _ | exact Wk.nilR _ _ _ | exact Wk.nil _ _ | exact Wk.dead _ | exact Wk.bT (by assumption) | exact Wk.bF (by assumption) | exact Wk.eqI (by omega) | exact WkS.refl _ | exact Wks.same _ | exact Wks.nil | exact WkS.nil | refine And.intro ?_ ?_ | refine Wk.aggs ?_ | refine Wk.tups ?_ | refine Wks.cons ?_ ?_ | refine WkS.cons (by first | exact fun _ => rfl | exact fun h => absurd h Bool.false_ne_true) ?_ ?_ ?_ | assumption | exact (fun h => h) | exact (fun h => absurd h Bool.false_ne_true) | intro _))))
    dsimp only [heldO]
    (simp (disch := omega) only [go_sem, ↓reduceIte, Nat.reduceEqDiff, Nat.reduceMul, Nat.reduceAdd, Nat.reduceSub, Nat.reduceLT, Nat.reduceGT, Nat.reduceLeDiff, Nat.reduceBEq, Int.reduceLT, Int.reduceLE, Int.reduceNe, Int.reduceEq, Int.reduceToNat, Int.reduceAdd, Int.reduceSub, Int.reduceMul, Int.reduceNeg, Nat.reducePow, Int.reducePow, Nat.reduceSubDiff, decide_true, decide_false, reduceCtorEq, or_self, or_false, false_or, or_true, true_or, if_false, gt_iff_lt, ge_iff_le, ne_eq, not_true_eq_false, not_false_eq_true, and_self, beq_self_eq_true, Bool.false_eq_true, List.append_assoc]; exact WkS.refl _)
  · rw [if_neg h2]
    refine run ?_
    exact r_end [0] []

set_option linter.unusedSimpArgs false in
theorem impl_HeldPutO (l : List HeldV) (r i : Int) (s : ByteArray) (hb : bndHS l) (hpre : totHS l ≤ 1048576) (hok : heldsP l) : CallsT Try.prog [] F.impl_HeldPut [.sl false 1 l.length 4 (rowT heldC l), .v (.int .i64 r), .v (.int .i64 i), .v (.string s)] (.tup [.ref 0 [] 0 (putH l r i s).1.length, .v (.int .i64 ((putH l r i s).2))]) [⟨4, true, rowT heldO (putH l r i s).1⟩] := by
  have hll := helds_len hpre
  have c1 := impl_HeldsOk 1 l hb
  rw [decide_eq_true hok] at c1
  have hfb := find_b l r
  refine fnT C.impl_HeldPut ?_
  refine runC ?_
  refine r_callp true c1 ?_
  refine runC ?_
  refine r_callp true (impl_copyHeldsO l hpre) ?_
  refine run ?_
  refine r_ifd (fun h => ?_) (fun h => ?_)
  · rw [show putH l r i s = (l, 1) from if_pos h]
    refine run ?_
    exact r_end [0] []
  have ea : putH l r i s = _ := if_neg h
  generalize findH l r = fi at *
  obtain ⟨n, rfl⟩ := Int.eq_ofNat_of_zero_le (show 0 ≤ fi by omega)
  have hn : n < l.length := by omega
  have hpl := parts_len hpre hn
  have hput := impl_ParcelPut (nth l (n : Nat)).size (nth l (n : Nat)).dig (nth l (n : Nat)).parts i s (by omega)
  have hpn := putP_ne (sz := (nth l (n : Nat)).size) (d := (nth l (n : Nat)).dig) (l := (nth l (n : Nat)).parts) (i := i) (s := s)
  rw [ea]
  clear ea
  generalize putP (nth l (n : Nat)).size (nth l (n : Nat)).dig (nth l (n : Nat)).parts i s = p at *
  dsimp only [parcT, parcS] at hput
  refine runC ?_
  refine r_callp true hput ?_
  refine run ?_
  refine r_ifd (fun h2 => ?_) (fun h2 => ?_)
  · have hne := hpn h2
    rw [if_pos h2, Int.toNat_natCast, List.length_set, row_split (enc := heldO) l n hn]
    have ht : (l.take n).length = n := by rw [List.length_take]; omega
    dsimp only [heldO, List.cons_append, List.nil_append]
    rw [rowR_ne 1 1 hne, isN hne]
    refine run ?_
    refine r_stw ?_
    refine run ?_
    rw [row_setH heldO l n _ hn]
    refine r_end [3] [.nest 0 [] (n * 4 + 3) 1] (hs := ?_) (hres := by (simp (disch := omega) only [go_sem, ↓reduceIte, Nat.reduceEqDiff, Nat.reduceMul, Nat.reduceAdd, Nat.reduceSub, Nat.reduceLT, Nat.reduceGT, Nat.reduceLeDiff, Nat.reduceBEq, Int.reduceLT, Int.reduceLE, Int.reduceNe, Int.reduceEq, Int.reduceToNat, Int.reduceAdd, Int.reduceSub, Int.reduceMul, Int.reduceNeg, Nat.reducePow, Int.reducePow, Nat.reduceSubDiff, decide_true, decide_false, reduceCtorEq, or_self, or_false, false_or, or_true, true_or, if_false, gt_iff_lt, ge_iff_le, ne_eq, not_true_eq_false, not_false_eq_true, and_self, beq_self_eq_true, Bool.false_eq_true]; try (repeat (first | exact True.intro | exact Wk.refl _ | exact Wk.nilR _ _ _ | exact Wk.nil _ _ | exact Wk.dead _ | exact Wk.bT (by assumption) | exact Wk.bF (by assumption) | exact Wk.eqI (by omega) | exact WkS.refl _ | exact Wks.same _ | exact Wks.nil | exact WkS.nil | refine And.intro ?_ ?_ | refine Wk.aggs ?_ | refine Wk.tups ?_ | refine Wks.cons ?_ ?_ | refine WkS.cons (by first | exact fun _ => rfl | exact fun h => absurd h Bool.false_ne_true) ?_ ?_ ?_ | assumption | exact (fun h => h) | exact (fun h => absurd h Bool.false_ne_true) | intro _))))
    dsimp only [heldO]
    (simp (disch := omega) only [go_sem, ↓reduceIte, Nat.reduceEqDiff, Nat.reduceMul, Nat.reduceAdd, Nat.reduceSub, Nat.reduceLT, Nat.reduceGT, Nat.reduceLeDiff, Nat.reduceBEq, Int.reduceLT, Int.reduceLE, Int.reduceNe, Int.reduceEq, Int.reduceToNat, Int.reduceAdd, Int.reduceSub, Int.reduceMul, Int.reduceNeg, Nat.reducePow, Int.reducePow, Nat.reduceSubDiff, decide_true, decide_false, reduceCtorEq, or_self, or_false, false_or, or_true, true_or, if_false, gt_iff_lt, ge_iff_le, ne_eq, not_true_eq_false, not_false_eq_true, and_self, beq_self_eq_true, Bool.false_eq_true, List.append_assoc]; exact WkS.refl _)
  · rw [if_neg h2]
    refine run ?_
    exact r_end [0] []

end Go.TL

/- A new release in a list of helds, by the reference. No conditions but those that are written. -/
namespace Go.TL
set_option linter.unusedSimpArgs false
open Go.Proofs Go.RowKit
attribute [local irreducible] wpOpsT wpT EndT Ex.seq Ex.block W

/-- The list ahead of a place, a new held among its things; whether it is there already. -/
def newStep (y : HeldV) (s : List HeldV × Bool) (x : HeldV) : List HeldV × Bool :=
  ((if s.2 = false ∧ y.rel ≤ x.rel then s.1 ++ [y] else s.1) ++ (if x.rel = y.rel then [] else [x]), s.2 || decide (y.rel ≤ x.rel))
def newSt (y : HeldV) (l : List HeldV) : List HeldV × Bool := l.foldl (newStep y) ([], false)
theorem newSt_s (y : HeldV) {l : List HeldV} {i : Nat} (hi : i < l.length) : newSt y (l.take (i + 1)) = newStep y (newSt y (l.take i)) (nth l (i : Nat)) := by
  rw [take_nth hi, newSt, List.foldl_append]; rfl
def newL (y : HeldV) (l : List HeldV) : List HeldV := if (newSt y l).2 = true then (newSt y l).1 else (newSt y l).1 ++ [y]
def newV (r sz : Int) (d : ByteArray) : HeldV := ⟨r, (newP sz d).size, (newP sz d).dig, (newP sz d).parts⟩
/-- What a new release does to a list. -/
def newH (l : List HeldV) (r sz : Int) (d : ByteArray) : List HeldV × Bool :=
  if ¬ heldsP l then ([], false)
  else if ¬ newOk sz d ∨ ¬ (1 ≤ r ∧ r ≤ 1000) ∨ (findH l r < 0 ∧ (l.length : Int) = 8) then (l, false)
  else (newL (newV r sz d) l, true)
/-- At most one more than were there. -/
theorem newSt_len (y : HeldV) : ∀ l : List HeldV, (newSt y l).1.length + (if (newSt y l).2 = true then 0 else 1) ≤ l.length + 1 := by
  have key : ∀ (l : List HeldV) (s : List HeldV × Bool), (l.foldl (newStep y) s).1.length + (if (l.foldl (newStep y) s).2 = true then 0 else 1) ≤ s.1.length + (if s.2 = true then 0 else 1) + l.length := by
    intro l
    induction l with
    | nil => intro s; exact Nat.le_refl _
    | cons x l ih =>
      rintro ⟨o, b⟩
      rw [List.foldl_cons]
      refine Nat.le_trans (ih _) ?_
      unfold newStep
      dsimp only
      cases b <;> by_cases h1 : y.rel ≤ x.rel <;> by_cases h2 : x.rel = y.rel <;> simp [h1, h2] <;> omega
  intro l
  have := key l ([], false)
  rw [if_neg Bool.false_ne_true, List.length_nil, Nat.zero_add, Nat.add_comm 1] at this
  exact this
theorem newSt_mem (y : HeldV) {l : List HeldV} {z : HeldV} : z ∈ (newSt y l).1 → z = y ∨ z ∈ l := by
  have key : ∀ (l : List HeldV) (s : List HeldV × Bool), z ∈ (l.foldl (newStep y) s).1 → z ∈ s.1 ∨ z = y ∨ z ∈ l := by
    intro l
    induction l with
    | nil => intro s h; exact .inl h
    | cons x l ih =>
      rintro ⟨o, b⟩ h
      rw [List.foldl_cons] at h
      rcases ih _ h with h | h | h
      · unfold newStep at h
        dsimp only at h
        rcases List.mem_append.1 h with h | h
        · split at h
          · rcases List.mem_append.1 h with h | h
            · exact .inl h
            · exact .inr (.inl (List.mem_singleton.1 h))
          · exact .inl h
        · split at h
          · cases h
          · rw [List.mem_singleton.1 h]; exact .inr (.inr (.head _))
      · exact .inr (.inl h)
      · exact .inr (.inr (.tail _ h))
  intro h
  rcases key l ([], false) h with h | h | h
  · cases h
  · exact .inl h
  · exact .inr h
theorem newL_len (y : HeldV) (l : List HeldV) : (newL y l).length ≤ l.length + 1 := by
  have := newSt_len y l
  unfold newL
  split
  · rename_i h; rw [if_pos h] at this; omega
  · rename_i h; rw [if_neg h] at this; rw [List.length_append, List.length_singleton]; omega
theorem newL_mem (y : HeldV) {l : List HeldV} {z : HeldV} (h : z ∈ newL y l) : z = y ∨ z ∈ l := by
  unfold newL at h
  split at h
  · exact newSt_mem y h
  · rcases List.mem_append.1 h with h | h
    · exact newSt_mem y h
    · exact .inl (List.mem_singleton.1 h)

set_option linter.unusedSimpArgs false in
set_option maxHeartbeats 8000000 in
theorem spec_HeldNewO (l : List HeldV) (r sz : Int) (d : ByteArray) (hb : bndHS l) (hpre : totHS l ≤ 1048576) : CallsT Try.prog [] F.spec_HeldNew [.sl false 1 l.length 4 (rowT heldC l), .v (.int .i64 r), .v (.int .i64 sz), .v (.string d)] (.tup [.ref 0 [] 0 (newH l r sz d).1.length, .v (.bool (newH l r sz d).2)]) [⟨4, true, rowT heldO (newH l r sz d).1⟩] := by
  have hll := helds_len hpre
  have hpn : (newP sz d).parts.length ≤ 100 := by
    have := partsN_b sz
    unfold newP
    split
    · dsimp only; rw [List.length_replicate]; omega
    · exact Nat.zero_le _
  refine fnT C.spec_HeldNew ?_
  refine run ?_
  refine r_ifd (fun h => ?_) (fun h => ?_)
  · rw [show newH l r sz d = ([], false) from if_pos h]
    refine run ?_
    exact r_end [0] []
  refine run ?_
  refine r_ifd (fun h2 => ?_) (fun h2 => ?_)
  · rw [show newH l r sz d = (l, false) by unfold newH; rw [if_neg h, if_pos (by grind)]]
    refine runC ?_
    refine r_callp true (spec_l14CopyO l hpre) ?_
    refine run ?_
    exact r_end [1] []
  rw [show newH l r sz d = (newL (newV r sz d) l, true) by unfold newH; rw [if_neg h, if_neg (by grind)]]
  clear h h2
  have hcy : CallsT Try.prog [] F.spec_l9Copy [.agg [.v (.int .i64 ((newP sz d).size)), .v (.string ((newP sz d).dig)), .sl false 1 (newP sz d).parts.length 1 (rowT strC (newP sz d).parts)]] (.agg [.v (.int .i64 ((newP sz d).size)), .v (.string ((newP sz d).dig)), .ref 0 [] 0 (newP sz d).parts.length]) [⟨1, true, rowT strC (newP sz d).parts⟩] := spec_l9CopyO _ _ _ (by omega)
  have hyr : (newV r sz d).rel = r := rfl
  have hyO : heldO (newV r sz d) = [.v (.int .i64 r), .v (.int .i64 ((newP sz d).size)), .v (.string ((newP sz d).dig)), ownC (newP sz d).parts.length 1 (rowT strC (newP sz d).parts)] := rfl
  generalize newV r sz d = y at *
  refine run ?_
  refine r_for l.length (fun i => [(0, .sl false 1 l.length 4 (rowT heldC l)), (1, .v (.int .i64 r)), (10, .ptr 0 [] 0), (13, .ref 1 [] 0 (newSt y (l.take i)).1.length), (14, .v (.bool (newSt y (l.take i)).2)), (15, .v (.int .i64 i))]) (fun i => [⟨0, true, [.v (.int .i64 ((newP sz d).size)), .v (.string ((newP sz d).dig)), .sl false 0 (newP sz d).parts.length 1 (rowT strC (newP sz d).parts)]⟩, ⟨4, true, rowT heldO (newSt y (l.take i)).1⟩]) (fun _ => True) [0, 1] [] trivial Gc.of (fun i hi _ => ?_) (fun _ => ?_)
  · have hpl := parts_len hpre hi
    have hst := newSt_s y hi
    have hlen := newSt_len y (l.take i)
    rw [List.length_take] at hlen
    generalize newSt y (l.take i) = s at *
    obtain ⟨o, b⟩ := s
    dsimp only at hst hlen ⊢
    rw [hst]
    unfold newStep
    dsimp only
    have hcx := spec_l9CopyO (nth l (i : Nat)).size (nth l (i : Nat)).dig (nth l (i : Nat)).parts (by omega)
    rw [hyr]
    by_cases hx : (nth l (i : Nat)).rel = r
    · rw [if_pos hx, List.append_nil]
      cases b with
      | true =>
        rw [if_neg (by simp), Bool.true_or]
        refine run ?_
        exact ⟨[0, 1], [], Gc.of, trivial⟩
      | false =>
        rw [if_pos ⟨rfl, by omega⟩, decide_eq_true (show r ≤ (nth l (i : Nat)).rel by omega), Bool.or_true]
        refine runC ?_
        refine r_callp true hcy ?_
        refine run ?_
        refine r_apw ?_
        refine run ?_
        refine ⟨[0, 5], [.nest 4 [] (o.length * 4 + 3) 2], Gc.of (hf := by rw [List.length_append, List.length_singleton]; (simp only [go_sem, ↓reduceIte, Nat.reduceEqDiff, Nat.reduceMul, Nat.reduceAdd, Nat.reduceSub, Nat.reduceLT, Nat.reduceGT, Nat.reduceLeDiff, Nat.reduceBEq, Int.reduceLT, Int.reduceLE, Int.reduceNe, Int.reduceEq, Int.reduceToNat, Int.reduceAdd, Int.reduceSub, Int.reduceMul, Int.reduceNeg, Nat.reducePow, Int.reducePow, Nat.reduceSubDiff, decide_true, decide_false, reduceCtorEq, or_self, or_false, false_or, or_true, true_or, if_false, gt_iff_lt, ge_iff_le, ne_eq, not_true_eq_false, not_false_eq_true, and_self, beq_self_eq_true, Bool.false_eq_true]; try (repeat (first | exact True.intro | exact Wk.refl _ | exact Wk.nilR _ _ _ | exact Wk.nil _ _ | exact Wk.dead _ | exact Wk.bT (by assumption) | exact Wk.bF (by assumption) | exact Wk.eqI (by omega) | exact WkS.refl _ | exact Wks.same _ | exact Wks.nil | exact WkS.nil | refine And.intro ?_ ?_ | refine Wk.aggs ?_ | refine Wk.tups ?_ | refine Wks.cons ?_ ?_ | refine WkS.cons (by first | exact fun _ => rfl | exact fun h => absurd h Bool.false_ne_true) ?_ ?_ ?_ | assumption | exact (fun h => h) | exact (fun h => absurd h Bool.false_ne_true) | intro _)))) (hs := ?_), trivial⟩
        rw [rowT_append, rowT_1, hyO]
        (simp (disch := omega) only [go_sem, ↓reduceIte, Nat.reduceEqDiff, Nat.reduceMul, Nat.reduceAdd, Nat.reduceSub, Nat.reduceLT, Nat.reduceGT, Nat.reduceLeDiff, Nat.reduceBEq, Int.reduceLT, Int.reduceLE, Int.reduceNe, Int.reduceEq, Int.reduceToNat, Int.reduceAdd, Int.reduceSub, Int.reduceMul, Int.reduceNeg, Nat.reducePow, Int.reducePow, Nat.reduceSubDiff, decide_true, decide_false, reduceCtorEq, or_self, or_false, false_or, or_true, true_or, if_false, gt_iff_lt, ge_iff_le, ne_eq, not_true_eq_false, not_false_eq_true, and_self, beq_self_eq_true, Bool.false_eq_true, List.append_assoc]; exact WkS.refl _)
    · rw [if_neg hx]
      by_cases hr : b = false ∧ r ≤ (nth l (i : Nat)).rel
      · obtain ⟨rfl, hr⟩ := hr
        rw [if_pos ⟨rfl, hr⟩, decide_eq_true hr, Bool.or_true]
        refine runC ?_
        refine r_callp true hcy ?_
        refine run ?_
        refine r_apw ?_
        refine runC ?_
        refine r_callp true hcx ?_
        refine run ?_
        refine r_apw ?_
        refine run ?_
        refine ⟨[0, 9], [.nest 7 [] (o.length * 4 + 3) 2, .nest 8 [] (o.length * 4 + 7) 5], Gc.of (hf := by simp only [List.length_append, List.length_singleton, List.append_assoc]; (simp (disch := omega) only [go_sem, ↓reduceIte, Nat.reduceEqDiff, Nat.reduceMul, Nat.reduceAdd, Nat.reduceSub, Nat.reduceLT, Nat.reduceGT, Nat.reduceLeDiff, Nat.reduceBEq, Int.reduceLT, Int.reduceLE, Int.reduceNe, Int.reduceEq, Int.reduceToNat, Int.reduceAdd, Int.reduceSub, Int.reduceMul, Int.reduceNeg, Nat.reducePow, Int.reducePow, Nat.reduceSubDiff, decide_true, decide_false, reduceCtorEq, or_self, or_false, false_or, or_true, true_or, if_false, gt_iff_lt, ge_iff_le, ne_eq, not_true_eq_false, not_false_eq_true, and_self, beq_self_eq_true, Bool.false_eq_true]; try (repeat (first | exact True.intro | exact Wk.refl _ | exact Wk.nilR _ _ _ | exact Wk.nil _ _ | exact Wk.dead _ | exact Wk.bT (by assumption) | exact Wk.bF (by assumption) | exact Wk.eqI (by omega) | exact WkS.refl _ | exact Wks.same _ | exact Wks.nil | exact WkS.nil | refine And.intro ?_ ?_ | refine Wk.aggs ?_ | refine Wk.tups ?_ | refine Wks.cons ?_ ?_ | refine WkS.cons (by first | exact fun _ => rfl | exact fun h => absurd h Bool.false_ne_true) ?_ ?_ ?_ | assumption | exact (fun h => h) | exact (fun h => absurd h Bool.false_ne_true) | intro _)))) (hs := ?_), trivial⟩
        rw [rowT_append, rowT_append, rowT_1, rowT_1, hyO]
        dsimp only [heldO]
        (simp (disch := omega) only [go_sem, ↓reduceIte, Nat.reduceEqDiff, Nat.reduceMul, Nat.reduceAdd, Nat.reduceSub, Nat.reduceLT, Nat.reduceGT, Nat.reduceLeDiff, Nat.reduceBEq, Int.reduceLT, Int.reduceLE, Int.reduceNe, Int.reduceEq, Int.reduceToNat, Int.reduceAdd, Int.reduceSub, Int.reduceMul, Int.reduceNeg, Nat.reducePow, Int.reducePow, Nat.reduceSubDiff, decide_true, decide_false, reduceCtorEq, or_self, or_false, false_or, or_true, true_or, if_false, gt_iff_lt, ge_iff_le, ne_eq, not_true_eq_false, not_false_eq_true, and_self, beq_self_eq_true, Bool.false_eq_true, List.append_assoc]; exact WkS.refl _)
      · rw [if_neg hr]
        have hb2 : (b || decide (r ≤ (nth l (i : Nat)).rel)) = b := by
          cases b with
          | true => rfl
          | false => rw [Bool.false_or]; exact decide_eq_false fun hh => hr ⟨rfl, hh⟩
        rw [hb2]
        cases b with
        | true =>
          refine runC ?_
          refine r_callp true hcx ?_
          refine run ?_
          refine r_apw ?_
          refine run ?_
          refine ⟨[0, 5], [.nest 4 [] (o.length * 4 + 3) 2], Gc.of (hf := by rw [List.length_append, List.length_singleton]; (simp only [go_sem, ↓reduceIte, Nat.reduceEqDiff, Nat.reduceMul, Nat.reduceAdd, Nat.reduceSub, Nat.reduceLT, Nat.reduceGT, Nat.reduceLeDiff, Nat.reduceBEq, Int.reduceLT, Int.reduceLE, Int.reduceNe, Int.reduceEq, Int.reduceToNat, Int.reduceAdd, Int.reduceSub, Int.reduceMul, Int.reduceNeg, Nat.reducePow, Int.reducePow, Nat.reduceSubDiff, decide_true, decide_false, reduceCtorEq, or_self, or_false, false_or, or_true, true_or, if_false, gt_iff_lt, ge_iff_le, ne_eq, not_true_eq_false, not_false_eq_true, and_self, beq_self_eq_true, Bool.false_eq_true]; try (repeat (first | exact True.intro | exact Wk.refl _ | exact Wk.nilR _ _ _ | exact Wk.nil _ _ | exact Wk.dead _ | exact Wk.bT (by assumption) | exact Wk.bF (by assumption) | exact Wk.eqI (by omega) | exact WkS.refl _ | exact Wks.same _ | exact Wks.nil | exact WkS.nil | refine And.intro ?_ ?_ | refine Wk.aggs ?_ | refine Wk.tups ?_ | refine Wks.cons ?_ ?_ | refine WkS.cons (by first | exact fun _ => rfl | exact fun h => absurd h Bool.false_ne_true) ?_ ?_ ?_ | assumption | exact (fun h => h) | exact (fun h => absurd h Bool.false_ne_true) | intro _)))) (hs := ?_), trivial⟩
          rw [rowT_append, rowT_1]
          dsimp only [heldO]
          (simp (disch := omega) only [go_sem, ↓reduceIte, Nat.reduceEqDiff, Nat.reduceMul, Nat.reduceAdd, Nat.reduceSub, Nat.reduceLT, Nat.reduceGT, Nat.reduceLeDiff, Nat.reduceBEq, Int.reduceLT, Int.reduceLE, Int.reduceNe, Int.reduceEq, Int.reduceToNat, Int.reduceAdd, Int.reduceSub, Int.reduceMul, Int.reduceNeg, Nat.reducePow, Int.reducePow, Nat.reduceSubDiff, decide_true, decide_false, reduceCtorEq, or_self, or_false, false_or, or_true, true_or, if_false, gt_iff_lt, ge_iff_le, ne_eq, not_true_eq_false, not_false_eq_true, and_self, beq_self_eq_true, Bool.false_eq_true, List.append_assoc]; exact WkS.refl _)
        | false =>
          have hr : ¬ r ≤ (nth l (i : Nat)).rel := fun hh => hr ⟨rfl, hh⟩
          refine runC ?_
          refine r_callp true hcx ?_
          refine run ?_
          refine r_apw ?_
          refine run ?_
          refine ⟨[0, 5], [.nest 4 [] (o.length * 4 + 3) 2], Gc.of (hf := by rw [List.length_append, List.length_singleton]; (simp only [go_sem, ↓reduceIte, Nat.reduceEqDiff, Nat.reduceMul, Nat.reduceAdd, Nat.reduceSub, Nat.reduceLT, Nat.reduceGT, Nat.reduceLeDiff, Nat.reduceBEq, Int.reduceLT, Int.reduceLE, Int.reduceNe, Int.reduceEq, Int.reduceToNat, Int.reduceAdd, Int.reduceSub, Int.reduceMul, Int.reduceNeg, Nat.reducePow, Int.reducePow, Nat.reduceSubDiff, decide_true, decide_false, reduceCtorEq, or_self, or_false, false_or, or_true, true_or, if_false, gt_iff_lt, ge_iff_le, ne_eq, not_true_eq_false, not_false_eq_true, and_self, beq_self_eq_true, Bool.false_eq_true]; try (repeat (first | exact True.intro | exact Wk.refl _ | exact Wk.nilR _ _ _ | exact Wk.nil _ _ | exact Wk.dead _ | exact Wk.bT (by assumption) | exact Wk.bF (by assumption) | exact Wk.eqI (by omega) | exact WkS.refl _ | exact Wks.same _ | exact Wks.nil | exact WkS.nil | refine And.intro ?_ ?_ | refine Wk.aggs ?_ | refine Wk.tups ?_ | refine Wks.cons ?_ ?_ | refine WkS.cons (by first | exact fun _ => rfl | exact fun h => absurd h Bool.false_ne_true) ?_ ?_ ?_ | assumption | exact (fun h => h) | exact (fun h => absurd h Bool.false_ne_true) | intro _)))) (hs := ?_), trivial⟩
          rw [rowT_append, rowT_1]
          dsimp only [heldO]
          (simp (disch := omega) only [go_sem, ↓reduceIte, Nat.reduceEqDiff, Nat.reduceMul, Nat.reduceAdd, Nat.reduceSub, Nat.reduceLT, Nat.reduceGT, Nat.reduceLeDiff, Nat.reduceBEq, Int.reduceLT, Int.reduceLE, Int.reduceNe, Int.reduceEq, Int.reduceToNat, Int.reduceAdd, Int.reduceSub, Int.reduceMul, Int.reduceNeg, Nat.reducePow, Int.reducePow, Nat.reduceSubDiff, decide_true, decide_false, reduceCtorEq, or_self, or_false, false_or, or_true, true_or, if_false, gt_iff_lt, ge_iff_le, ne_eq, not_true_eq_false, not_false_eq_true, and_self, beq_self_eq_true, Bool.false_eq_true, List.append_assoc]; exact WkS.refl _)
  · rw [List.take_length]
    unfold newL
    have hlen := newSt_len y l
    generalize newSt y l = s at *
    obtain ⟨o, b⟩ := s
    dsimp only at hlen ⊢
    cases b with
    | true =>
      rw [if_pos rfl]
      refine run ?_
      exact r_end [1] []
    | false =>
      rw [if_neg (by simp)]
      refine runC ?_
      refine r_callp true hcy ?_
      refine run ?_
      refine r_apw ?_
      refine run ?_
      refine r_end [5] [.nest 4 [] (o.length * 4 + 3) 2] (hs := ?_) (hres := by rw [List.length_append, List.length_singleton]; (simp only [go_sem, ↓reduceIte, Nat.reduceEqDiff, Nat.reduceMul, Nat.reduceAdd, Nat.reduceSub, Nat.reduceLT, Nat.reduceGT, Nat.reduceLeDiff, Nat.reduceBEq, Int.reduceLT, Int.reduceLE, Int.reduceNe, Int.reduceEq, Int.reduceToNat, Int.reduceAdd, Int.reduceSub, Int.reduceMul, Int.reduceNeg, Nat.reducePow, Int.reducePow, Nat.reduceSubDiff, decide_true, decide_false, reduceCtorEq, or_self, or_false, false_or, or_true, true_or, if_false, gt_iff_lt, ge_iff_le, ne_eq, not_true_eq_false, not_false_eq_true, and_self, beq_self_eq_true, Bool.false_eq_true]; try (repeat (first | exact True.intro | exact Wk.refl _ | exact Wk.nilR _ _ _ | exact Wk.nil _ _ | exact Wk.dead _ | exact Wk.bT (by assumption) | exact Wk.bF (by assumption) | exact Wk.eqI (by omega) | exact WkS.refl _ | exact Wks.same _ | exact Wks.nil | exact WkS.nil | refine And.intro ?_ ?_ | refine Wk.aggs ?_ | refine Wk.tups ?_ | refine Wks.cons ?_ ?_ | refine WkS.cons (by first | exact fun _ => rfl | exact fun h => absurd h Bool.false_ne_true) ?_ ?_ ?_ | assumption | exact (fun h => h) | exact (fun h => absurd h Bool.false_ne_true) | intro _))))
      rw [rowT_append, rowT_1, hyO]
      (simp (disch := omega) only [go_sem, ↓reduceIte, Nat.reduceEqDiff, Nat.reduceMul, Nat.reduceAdd, Nat.reduceSub, Nat.reduceLT, Nat.reduceGT, Nat.reduceLeDiff, Nat.reduceBEq, Int.reduceLT, Int.reduceLE, Int.reduceNe, Int.reduceEq, Int.reduceToNat, Int.reduceAdd, Int.reduceSub, Int.reduceMul, Int.reduceNeg, Nat.reducePow, Int.reducePow, Nat.reduceSubDiff, decide_true, decide_false, reduceCtorEq, or_self, or_false, false_or, or_true, true_or, if_false, gt_iff_lt, ge_iff_le, ne_eq, not_true_eq_false, not_false_eq_true, and_self, beq_self_eq_true, Bool.false_eq_true, List.append_assoc]; exact WkS.refl _)

end Go.TL
