/- Parcels and helds of one's own: copies, and parts that are put, by both sides. No conditions but those that are written. -/
import Derived.Test.YtneiifghegdfgaaP0
import Derived.Test.YtneiifghegdfgaaA4
import Derived.Test.YtneiifghegdfgaaTAny
namespace Go.TL
set_option linter.unusedSimpArgs false
open Go.Proofs Go.RowKit
attribute [local irreducible] wpOpsT wpT EndT Ex.seq Ex.block W

theorem spec_l9CopyO (sz : Int) (d : ByteArray) (l : List ByteArray) (hl : l.length ≤ 90000000) : CallsT Try.prog [] F.spec_l9Copy [.agg [.v (.int .i64 sz), .v (.string d), .sl false 1 l.length 1 (rowT strC l)]] (.agg [.v (.int .i64 sz), .v (.string d), .ref 0 [] 0 l.length]) [⟨1, true, rowT strC l⟩] := by
  refine fnT C.spec_l9Copy ?_
  refine run ?_
  refine r_app (enc := strC) [] l (by simp only [List.length_nil]; omega) ?_
  rw [List.nil_append]
  refine run ?_
  exact r_end [3] []

theorem impl_copyTextsO (l : List ByteArray) (hl : l.length ≤ 90000000) : CallsT Try.prog [] F.impl_copyTexts [.sl false 1 l.length 1 (rowT strC l)] (.ref 0 [] 0 l.length) [⟨1, true, rowT strC l⟩] := by
  refine fnT C.impl_copyTexts ?_
  refine run ?_
  refine r_app (enc := strC) [] l (by simp only [List.length_nil]; omega) ?_
  rw [List.nil_append]
  refine run ?_
  exact r_end [1] []

theorem impl_copyParcelO (sz : Int) (d : ByteArray) (l : List ByteArray) (hl : l.length ≤ 90000000) : CallsT Try.prog [] F.impl_copyParcel [.agg [.v (.int .i64 sz), .v (.string d), .sl false 1 l.length 1 (rowT strC l)]] (.agg [.v (.int .i64 sz), .v (.string d), .ref 0 [] 0 l.length]) [⟨1, true, rowT strC l⟩] := by
  refine fnT C.impl_copyParcel ?_
  refine runC ?_
  refine r_callp true (impl_copyTextsO l hl) ?_
  refine run ?_
  exact r_end [2] []

theorem isN {α : Type} {l : List α} (h : l ≠ []) : (!l.isEmpty) = true := by cases l with | nil => exact absurd rfl h | cons => rfl
theorem ne_setN {α : Type} {l : List α} (h : l ≠ []) (i : Nat) (x : α) : l.set i x ≠ [] := by cases l with | nil => exact absurd rfl h | cons => cases i <;> simp
/-! ### Parts that are put -/
def putP (sz : Int) (d : ByteArray) (l : List ByteArray) (i : Int) (s : ByteArray) : ParcelV × Int :=
  if parcelP sz d l ∧ (0 ≤ i ∧ i ≤ (l.length : Int) - 1) ∧ (s.size : Int) = min 16 (sz - i * 16) then
    if nth l i = s then (⟨sz, d, l⟩, 2) else if nth l i ≠ ⟨#[]⟩ then (⟨sz, d, l⟩, 3) else (⟨sz, d, l.set i.toNat s⟩, 0)
  else (⟨0, ⟨#[]⟩, []⟩, 1)
def parcT (x : ParcelV) : T := .agg [.v (.int .i64 x.size), .v (.string x.dig), rowR 1 0 x.parts]
def parcS (x : ParcelV) : Store := [⟨1, !x.parts.isEmpty, rowT strC x.parts⟩]

set_option linter.unusedSimpArgs false in
theorem spec_ParcelPut (sz : Int) (d : ByteArray) (l : List ByteArray) (i : Int) (s : ByteArray) (hl : l.length ≤ 90000000) :
    CallsT Try.prog [] F.spec_ParcelPut [.agg [.v (.int .i64 sz), .v (.string d), .sl false 1 l.length 1 (rowT strC l)], .v (.int .i64 i), .v (.string s)] (.tup [parcT (putP sz d l i s).1, .v (.int .i64 ((putP sz d l i s).2))]) (parcS (putP sz d l i s).1) := by
  have c1 := spec_ParcelOk 1 sz d l (by omega)
  have c2 := spec_l1In i 0 ((l.length : Int) - 1)
  refine fnT C.spec_ParcelPut ?_
  by_cases hp : parcelP sz d l
  · rw [decide_eq_true hp] at c1
    refine runC ?_
    refine r_callp true c1 ?_
    by_cases hi : 0 ≤ i ∧ i ≤ (l.length : Int) - 1
    · rw [decide_eq_true hi] at c2
      have hsz := hp.1
      refine runC ?_
      refine r_callp true c2 ?_
      refine run ?_
      refine r_ifd (fun h => ?_) (fun h => ?_)
      · rw [show putP sz d l i s = (⟨0, ⟨#[]⟩, []⟩, 1) from if_neg (fun hh => h hh.2.2)]
        dsimp only [parcT, parcS]
        refine run ?_
        exact r_end [0] [] (hres := by (simp only [go_sem, ↓reduceIte, Nat.reduceEqDiff, Nat.reduceMul, Nat.reduceAdd, Nat.reduceSub, Nat.reduceLT, Nat.reduceGT, Nat.reduceLeDiff, Nat.reduceBEq, Int.reduceLT, Int.reduceLE, Int.reduceNe, Int.reduceEq, Int.reduceToNat, Int.reduceAdd, Int.reduceSub, Int.reduceMul, Int.reduceNeg, Nat.reducePow, Int.reducePow, Nat.reduceSubDiff, decide_true, decide_false, reduceCtorEq, or_self, or_false, false_or, or_true, true_or, if_false, gt_iff_lt, ge_iff_le, ne_eq, not_true_eq_false, not_false_eq_true, and_self, beq_self_eq_true, Bool.false_eq_true]; try (repeat (first | exact True.intro | exact Wk.refl _ | exact Wk.nilR _ _ _ | exact Wk.nil _ _ | exact Wk.dead _ | exact Wk.bT (by assumption) | exact Wk.bF (by assumption) | exact Wk.eqI (by omega) | exact WkS.refl _ | exact Wks.same _ | exact Wks.nil | exact WkS.nil | refine And.intro ?_ ?_ | refine Wk.aggs ?_ | refine Wk.tups ?_ | refine Wks.cons ?_ ?_ | refine WkS.cons (by first | exact fun _ => rfl | exact fun h => absurd h Bool.false_ne_true) ?_ ?_ ?_ | assumption | exact (fun h => h) | exact (fun h => absurd h Bool.false_ne_true) | intro _))))
      have hok : parcelP sz d l ∧ (0 ≤ i ∧ i ≤ (l.length : Int) - 1) ∧ (s.size : Int) = min 16 (sz - i * 16) := ⟨hp, hi, by omega⟩
      have ea : putP sz d l i s = (if nth l i = s then (⟨sz, d, l⟩, 2) else if nth l i ≠ ⟨#[]⟩ then (⟨sz, d, l⟩, 3) else ((⟨sz, d, l.set i.toNat s⟩ : ParcelV), (0 : Int))) := if_pos hok
      obtain ⟨n, rfl⟩ := Int.eq_ofNat_of_zero_le hi.1
      have hn : n < l.length := by omega
      have hne : l ≠ [] := by intro h; rw [h] at hn; simp at hn
      refine runC ?_
      refine r_callp true (spec_l9CopyO sz d l hl) ?_
      refine run ?_
      refine r_ifd (fun h1 => ?_) (fun h1 => ?_)
      · rw [ea, if_pos h1]
        dsimp only [parcT, parcS]
        refine run ?_
        exact r_end [2] [.sealR 2] (hres := by (simp only [go_sem, ↓reduceIte, Nat.reduceEqDiff, Nat.reduceMul, Nat.reduceAdd, Nat.reduceSub, Nat.reduceLT, Nat.reduceGT, Nat.reduceLeDiff, Nat.reduceBEq, Int.reduceLT, Int.reduceLE, Int.reduceNe, Int.reduceEq, Int.reduceToNat, Int.reduceAdd, Int.reduceSub, Int.reduceMul, Int.reduceNeg, Nat.reducePow, Int.reducePow, Nat.reduceSubDiff, decide_true, decide_false, reduceCtorEq, or_self, or_false, false_or, or_true, true_or, if_false, gt_iff_lt, ge_iff_le, ne_eq, not_true_eq_false, not_false_eq_true, and_self, beq_self_eq_true, Bool.false_eq_true]; try (repeat (first | exact True.intro | exact Wk.refl _ | exact Wk.nilR _ _ _ | exact Wk.nil _ _ | exact Wk.dead _ | exact Wk.bT (by assumption) | exact Wk.bF (by assumption) | exact Wk.eqI (by omega) | exact WkS.refl _ | exact Wks.same _ | exact Wks.nil | exact WkS.nil | refine And.intro ?_ ?_ | refine Wk.aggs ?_ | refine Wk.tups ?_ | refine Wks.cons ?_ ?_ | refine WkS.cons (by first | exact fun _ => rfl | exact fun h => absurd h Bool.false_ne_true) ?_ ?_ ?_ | assumption | exact (fun h => h) | exact (fun h => absurd h Bool.false_ne_true) | intro _))))
      refine run ?_
      refine r_ifd (fun h2 => ?_) (fun h2 => ?_)
      · rw [ea, if_neg h1, if_pos h2]
        dsimp only [parcT, parcS]
        refine run ?_
        exact r_end [2] [.sealR 2] (hres := by (simp only [go_sem, ↓reduceIte, Nat.reduceEqDiff, Nat.reduceMul, Nat.reduceAdd, Nat.reduceSub, Nat.reduceLT, Nat.reduceGT, Nat.reduceLeDiff, Nat.reduceBEq, Int.reduceLT, Int.reduceLE, Int.reduceNe, Int.reduceEq, Int.reduceToNat, Int.reduceAdd, Int.reduceSub, Int.reduceMul, Int.reduceNeg, Nat.reducePow, Int.reducePow, Nat.reduceSubDiff, decide_true, decide_false, reduceCtorEq, or_self, or_false, false_or, or_true, true_or, if_false, gt_iff_lt, ge_iff_le, ne_eq, not_true_eq_false, not_false_eq_true, and_self, beq_self_eq_true, Bool.false_eq_true]; try (repeat (first | exact True.intro | exact Wk.refl _ | exact Wk.nilR _ _ _ | exact Wk.nil _ _ | exact Wk.dead _ | exact Wk.bT (by assumption) | exact Wk.bF (by assumption) | exact Wk.eqI (by omega) | exact WkS.refl _ | exact Wks.same _ | exact Wks.nil | exact WkS.nil | refine And.intro ?_ ?_ | refine Wk.aggs ?_ | refine Wk.tups ?_ | refine Wks.cons ?_ ?_ | refine WkS.cons (by first | exact fun _ => rfl | exact fun h => absurd h Bool.false_ne_true) ?_ ?_ ?_ | assumption | exact (fun h => h) | exact (fun h => absurd h Bool.false_ne_true) | intro _))))
      rw [ea, if_neg h1, if_neg h2]
      dsimp only [parcT, parcS]
      rw [Int.toNat_natCast, rowR_ne 1 0 (ne_setN hne n s), isN (ne_setN hne n s), List.length_set]
      refine run ?_
      refine r_sto (enc := strC) l n s ?_
      refine run ?_
      exact r_end [2] []
    · rw [decide_eq_false hi] at c2
      refine runC ?_
      refine r_callp true c2 ?_
      rw [show putP sz d l i s = (⟨0, ⟨#[]⟩, []⟩, 1) from if_neg (fun hh => hi hh.2.1)]
      dsimp only [parcT, parcS]
      refine run ?_
      exact r_end [0] [] (hres := by (simp only [go_sem, ↓reduceIte, Nat.reduceEqDiff, Nat.reduceMul, Nat.reduceAdd, Nat.reduceSub, Nat.reduceLT, Nat.reduceGT, Nat.reduceLeDiff, Nat.reduceBEq, Int.reduceLT, Int.reduceLE, Int.reduceNe, Int.reduceEq, Int.reduceToNat, Int.reduceAdd, Int.reduceSub, Int.reduceMul, Int.reduceNeg, Nat.reducePow, Int.reducePow, Nat.reduceSubDiff, decide_true, decide_false, reduceCtorEq, or_self, or_false, false_or, or_true, true_or, if_false, gt_iff_lt, ge_iff_le, ne_eq, not_true_eq_false, not_false_eq_true, and_self, beq_self_eq_true, Bool.false_eq_true]; try (repeat (first | exact True.intro | exact Wk.refl _ | exact Wk.nilR _ _ _ | exact Wk.nil _ _ | exact Wk.dead _ | exact Wk.bT (by assumption) | exact Wk.bF (by assumption) | exact Wk.eqI (by omega) | exact WkS.refl _ | exact Wks.same _ | exact Wks.nil | exact WkS.nil | refine And.intro ?_ ?_ | refine Wk.aggs ?_ | refine Wk.tups ?_ | refine Wks.cons ?_ ?_ | refine WkS.cons (by first | exact fun _ => rfl | exact fun h => absurd h Bool.false_ne_true) ?_ ?_ ?_ | assumption | exact (fun h => h) | exact (fun h => absurd h Bool.false_ne_true) | intro _))))
  · rw [decide_eq_false hp] at c1
    refine runC ?_
    refine r_callp true c1 ?_
    rw [show putP sz d l i s = (⟨0, ⟨#[]⟩, []⟩, 1) from if_neg (fun hh => hp hh.1)]
    dsimp only [parcT, parcS]
    refine run ?_
    exact r_end [0] [] (hres := by (simp only [go_sem, ↓reduceIte, Nat.reduceEqDiff, Nat.reduceMul, Nat.reduceAdd, Nat.reduceSub, Nat.reduceLT, Nat.reduceGT, Nat.reduceLeDiff, Nat.reduceBEq, Int.reduceLT, Int.reduceLE, Int.reduceNe, Int.reduceEq, Int.reduceToNat, Int.reduceAdd, Int.reduceSub, Int.reduceMul, Int.reduceNeg, Nat.reducePow, Int.reducePow, Nat.reduceSubDiff, decide_true, decide_false, reduceCtorEq, or_self, or_false, false_or, or_true, true_or, if_false, gt_iff_lt, ge_iff_le, ne_eq, not_true_eq_false, not_false_eq_true, and_self, beq_self_eq_true, Bool.false_eq_true]; try (repeat (first | exact True.intro | exact Wk.refl _ | exact Wk.nilR _ _ _ | exact Wk.nil _ _ | exact Wk.dead _ | exact Wk.bT (by assumption) | exact Wk.bF (by assumption) | exact Wk.eqI (by omega) | exact WkS.refl _ | exact Wks.same _ | exact Wks.nil | exact WkS.nil | refine And.intro ?_ ?_ | refine Wk.aggs ?_ | refine Wk.tups ?_ | refine Wks.cons ?_ ?_ | refine WkS.cons (by first | exact fun _ => rfl | exact fun h => absurd h Bool.false_ne_true) ?_ ?_ ?_ | assumption | exact (fun h => h) | exact (fun h => absurd h Bool.false_ne_true) | intro _))))

set_option linter.unusedSimpArgs false in
theorem impl_ParcelPut (sz : Int) (d : ByteArray) (l : List ByteArray) (i : Int) (s : ByteArray) (hl : l.length ≤ 90000000) :
    CallsT Try.prog [] F.impl_ParcelPut [.agg [.v (.int .i64 sz), .v (.string d), .sl false 1 l.length 1 (rowT strC l)], .v (.int .i64 i), .v (.string s)] (.tup [parcT (putP sz d l i s).1, .v (.int .i64 ((putP sz d l i s).2))]) (parcS (putP sz d l i s).1) := by
  have c1 := impl_ParcelOk 1 sz d l (by omega)
  have c2 := impl_within i 0 ((l.length : Int) - 1)
  refine fnT C.impl_ParcelPut ?_
  by_cases hp : parcelP sz d l
  · rw [decide_eq_true hp] at c1
    refine runC ?_
    refine r_callp true c1 ?_
    by_cases hi : 0 ≤ i ∧ i ≤ (l.length : Int) - 1
    · rw [decide_eq_true hi] at c2
      have hsz := hp.1
      refine runC ?_
      refine r_callp true c2 ?_
      refine run ?_
      refine r_ifd (fun h => ?_) (fun h => ?_)
      · rw [show putP sz d l i s = (⟨0, ⟨#[]⟩, []⟩, 1) from if_neg (fun hh => h hh.2.2)]
        dsimp only [parcT, parcS]
        refine run ?_
        exact r_end [0] [] (hres := by (simp only [go_sem, ↓reduceIte, Nat.reduceEqDiff, Nat.reduceMul, Nat.reduceAdd, Nat.reduceSub, Nat.reduceLT, Nat.reduceGT, Nat.reduceLeDiff, Nat.reduceBEq, Int.reduceLT, Int.reduceLE, Int.reduceNe, Int.reduceEq, Int.reduceToNat, Int.reduceAdd, Int.reduceSub, Int.reduceMul, Int.reduceNeg, Nat.reducePow, Int.reducePow, Nat.reduceSubDiff, decide_true, decide_false, reduceCtorEq, or_self, or_false, false_or, or_true, true_or, if_false, gt_iff_lt, ge_iff_le, ne_eq, not_true_eq_false, not_false_eq_true, and_self, beq_self_eq_true, Bool.false_eq_true]; try (repeat (first | exact True.intro | exact Wk.refl _ | exact Wk.nilR _ _ _ | exact Wk.nil _ _ | exact Wk.dead _ | exact Wk.bT (by assumption) | exact Wk.bF (by assumption) | exact Wk.eqI (by omega) | exact WkS.refl _ | exact Wks.same _ | exact Wks.nil | exact WkS.nil | refine And.intro ?_ ?_ | refine Wk.aggs ?_ | refine Wk.tups ?_ | refine Wks.cons ?_ ?_ | refine WkS.cons (by first | exact fun _ => rfl | exact fun h => absurd h Bool.false_ne_true) ?_ ?_ ?_ | assumption | exact (fun h => h) | exact (fun h => absurd h Bool.false_ne_true) | intro _))))
      have hok : parcelP sz d l ∧ (0 ≤ i ∧ i ≤ (l.length : Int) - 1) ∧ (s.size : Int) = min 16 (sz - i * 16) := ⟨hp, hi, by omega⟩
      have ea : putP sz d l i s = (if nth l i = s then (⟨sz, d, l⟩, 2) else if nth l i ≠ ⟨#[]⟩ then (⟨sz, d, l⟩, 3) else ((⟨sz, d, l.set i.toNat s⟩ : ParcelV), (0 : Int))) := if_pos hok
      obtain ⟨n, rfl⟩ := Int.eq_ofNat_of_zero_le hi.1
      have hn : n < l.length := by omega
      have hne : l ≠ [] := by intro h; rw [h] at hn; simp at hn
      refine runC ?_
      refine r_callp true (impl_copyParcelO sz d l hl) ?_
      refine run ?_
      have hs1 : nth l (n : Nat) = ⟨#[]⟩ → nth l (n : Nat) ≠ s := by
        intro h1 h2
        rw [h1] at h2
        have h3 := hp.2.2.1
        have h4 : s.size = 0 := by rw [← h2]; rfl
        have h5 := hok.2.2
        unfold partsN at h3
        rw [if_pos hsz] at h3
        omega
      refine r_ifd (fun h1 => ?_) (fun h1 => ?_)
      · rw [ea, if_neg (hs1 h1), if_neg (fun hh => hh h1)]
        dsimp only [parcT, parcS]
        rw [Int.toNat_natCast, rowR_ne 1 0 (ne_setN hne n s), isN (ne_setN hne n s), List.length_set]
        refine run ?_
        refine r_sto (enc := strC) l n s ?_
        refine run ?_
        exact r_end [2] []
      refine run ?_
      refine r_ifd (fun h2 => ?_) (fun h2 => ?_)
      · rw [ea, if_pos h2]
        dsimp only [parcT, parcS]
        refine run ?_
        exact r_end [2] [.sealR 2] (hres := by (simp only [go_sem, ↓reduceIte, Nat.reduceEqDiff, Nat.reduceMul, Nat.reduceAdd, Nat.reduceSub, Nat.reduceLT, Nat.reduceGT, Nat.reduceLeDiff, Nat.reduceBEq, Int.reduceLT, Int.reduceLE, Int.reduceNe, Int.reduceEq, Int.reduceToNat, Int.reduceAdd, Int.reduceSub, Int.reduceMul, Int.reduceNeg, Nat.reducePow, Int.reducePow, Nat.reduceSubDiff, decide_true, decide_false, reduceCtorEq, or_self, or_false, false_or, or_true, true_or, if_false, gt_iff_lt, ge_iff_le, ne_eq, not_true_eq_false, not_false_eq_true, and_self, beq_self_eq_true, Bool.false_eq_true]; try (repeat (first | exact True.intro | exact Wk.refl _ | exact Wk.nilR _ _ _ | exact Wk.nil _ _ | exact Wk.dead _ | exact Wk.bT (by assumption) | exact Wk.bF (by assumption) | exact Wk.eqI (by omega) | exact WkS.refl _ | exact Wks.same _ | exact Wks.nil | exact WkS.nil | refine And.intro ?_ ?_ | refine Wk.aggs ?_ | refine Wk.tups ?_ | refine Wks.cons ?_ ?_ | refine WkS.cons (by first | exact fun _ => rfl | exact fun h => absurd h Bool.false_ne_true) ?_ ?_ ?_ | assumption | exact (fun h => h) | exact (fun h => absurd h Bool.false_ne_true) | intro _))))
      rw [ea, if_neg h2, if_pos h1]
      dsimp only [parcT, parcS]
      refine run ?_
      exact r_end [2] [.sealR 2] (hres := by (simp only [go_sem, ↓reduceIte, Nat.reduceEqDiff, Nat.reduceMul, Nat.reduceAdd, Nat.reduceSub, Nat.reduceLT, Nat.reduceGT, Nat.reduceLeDiff, Nat.reduceBEq, Int.reduceLT, Int.reduceLE, Int.reduceNe, Int.reduceEq, Int.reduceToNat, Int.reduceAdd, Int.reduceSub, Int.reduceMul, Int.reduceNeg, Nat.reducePow, Int.reducePow, Nat.reduceSubDiff, decide_true, decide_false, reduceCtorEq, or_self, or_false, false_or, or_true, true_or, if_false, gt_iff_lt, ge_iff_le, ne_eq, not_true_eq_false, not_false_eq_true, and_self, beq_self_eq_true, Bool.false_eq_true]; try (repeat (first | exact True.intro | exact Wk.refl _ | exact Wk.nilR _ _ _ | exact Wk.nil _ _ | exact Wk.dead _ | exact Wk.bT (by assumption) | exact Wk.bF (by assumption) | exact Wk.eqI (by omega) | exact WkS.refl _ | exact Wks.same _ | exact Wks.nil | exact WkS.nil | refine And.intro ?_ ?_ | refine Wk.aggs ?_ | refine Wk.tups ?_ | refine Wks.cons ?_ ?_ | refine WkS.cons (by first | exact fun _ => rfl | exact fun h => absurd h Bool.false_ne_true) ?_ ?_ ?_ | assumption | exact (fun h => h) | exact (fun h => absurd h Bool.false_ne_true) | intro _))))
    · rw [decide_eq_false hi] at c2
      refine runC ?_
      refine r_callp true c2 ?_
      rw [show putP sz d l i s = (⟨0, ⟨#[]⟩, []⟩, 1) from if_neg (fun hh => hi hh.2.1)]
      dsimp only [parcT, parcS]
      refine run ?_
      exact r_end [0] [] (hres := by (simp only [go_sem, ↓reduceIte, Nat.reduceEqDiff, Nat.reduceMul, Nat.reduceAdd, Nat.reduceSub, Nat.reduceLT, Nat.reduceGT, Nat.reduceLeDiff, Nat.reduceBEq, Int.reduceLT, Int.reduceLE, Int.reduceNe, Int.reduceEq, Int.reduceToNat, Int.reduceAdd, Int.reduceSub, Int.reduceMul, Int.reduceNeg, Nat.reducePow, Int.reducePow, Nat.reduceSubDiff, decide_true, decide_false, reduceCtorEq, or_self, or_false, false_or, or_true, true_or, if_false, gt_iff_lt, ge_iff_le, ne_eq, not_true_eq_false, not_false_eq_true, and_self, beq_self_eq_true, Bool.false_eq_true]; try (repeat (first | exact True.intro | exact Wk.refl _ | exact Wk.nilR _ _ _ | exact Wk.nil _ _ | exact Wk.dead _ | exact Wk.bT (by assumption) | exact Wk.bF (by assumption) | exact Wk.eqI (by omega) | exact WkS.refl _ | exact Wks.same _ | exact Wks.nil | exact WkS.nil | refine And.intro ?_ ?_ | refine Wk.aggs ?_ | refine Wk.tups ?_ | refine Wks.cons ?_ ?_ | refine WkS.cons (by first | exact fun _ => rfl | exact fun h => absurd h Bool.false_ne_true) ?_ ?_ ?_ | assumption | exact (fun h => h) | exact (fun h => absurd h Bool.false_ne_true) | intro _))))
  · rw [decide_eq_false hp] at c1
    refine runC ?_
    refine r_callp true c1 ?_
    rw [show putP sz d l i s = (⟨0, ⟨#[]⟩, []⟩, 1) from if_neg (fun hh => hp hh.1)]
    dsimp only [parcT, parcS]
    refine run ?_
    exact r_end [0] [] (hres := by (simp only [go_sem, ↓reduceIte, Nat.reduceEqDiff, Nat.reduceMul, Nat.reduceAdd, Nat.reduceSub, Nat.reduceLT, Nat.reduceGT, Nat.reduceLeDiff, Nat.reduceBEq, Int.reduceLT, Int.reduceLE, Int.reduceNe, Int.reduceEq, Int.reduceToNat, Int.reduceAdd, Int.reduceSub, Int.reduceMul, Int.reduceNeg, Nat.reducePow, Int.reducePow, Nat.reduceSubDiff, decide_true, decide_false, reduceCtorEq, or_self, or_false, false_or, or_true, true_or, if_false, gt_iff_lt, ge_iff_le, ne_eq, not_true_eq_false, not_false_eq_true, and_self, beq_self_eq_true, Bool.false_eq_true]; try (repeat (first | exact True.intro | exact Wk.refl _ | exact Wk.nilR _ _ _ | exact Wk.nil _ _ | exact Wk.dead _ | exact Wk.bT (by assumption) | exact Wk.bF (by assumption) | exact Wk.eqI (by omega) | exact WkS.refl _ | exact Wks.same _ | exact Wks.nil | exact WkS.nil | refine And.intro ?_ ?_ | refine Wk.aggs ?_ | refine Wk.tups ?_ | refine Wks.cons ?_ ?_ | refine WkS.cons (by first | exact fun _ => rfl | exact fun h => absurd h Bool.false_ne_true) ?_ ?_ ?_ | assumption | exact (fun h => h) | exact (fun h => absurd h Bool.false_ne_true) | intro _))))

end Go.TL
