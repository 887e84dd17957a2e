/- What is drawn for HeldPut: that there is a list, a release, a part, whatever the bytes. No conditions but those that are written. -/
import Derived.Test.YthkahdjgkcccgaaG15
namespace Go.TL
set_option linter.unusedSimpArgs false
open Go.Proofs Go.RowKit
attribute [local irreducible] wpOpsT wpT EndT Ex.seq Ex.block W

def capJ (l : List HeldV) : Prop := l.length ≤ 11 ∧ ∀ h ∈ l, capV h
theorem capJ_tot {l : List HeldV} (hc : capJ l) : bndHS l ∧ totHS l ≤ 1048576 := by
  obtain ⟨h1, h2⟩ := hc
  have := sum_bnd (f := totH) (K := 3000) l fun x hx => capV_tot (h2 x hx)
  refine ⟨⟨by omega, fun h hh => ?_⟩, by unfold totHS; omega⟩
  obtain ⟨a, b, c⟩ := h2 h hh
  exact ⟨by omega, by omega, fun s hs => by have := c s hs; omega⟩
theorem capJ_of {l : List HeldV} (h : capH l) : capJ l := ⟨by have := h.1; omega, h.2⟩
theorem wks_pre (a : List T) {b c : List T} (h : Wks b c) : Wks (a ++ b) (a ++ c) := by
  induction a with
  | nil => exact h
  | cons x a ih => exact .cons (.refl _) ih
theorem wk_nilS : Wk (.v (.slice none 0 0)) (ownC 0 1 []) := by rw [ownC_nil]; exact .nil _ _
/-- A held of which nothing is there. -/
def noneH (r : Int) : HeldV := ⟨r, 0, ⟨#[]⟩, []⟩

set_option linter.unusedSimpArgs false in
set_option maxHeartbeats 8000000 in
theorem helds14_ex (l : List Int) (c : Int × Int) (hc : curP l c.1) : ∃ (o : List HeldV) (c' : Int × Int), capJ o ∧ curP l c'.1 ∧ CallsT Try.prog [⟨0, true, [.sl false 0 l.length 1 (rowT u8C l), .v (.int .i64 c.1), .v (.int .i64 c.2)]⟩] F.spec_l14DrawHelds [.ptr 0 [] 0] (.ref 1 [] 0 o.length) [⟨0, true, [.sl false 0 l.length 1 (rowT u8C l), .v (.int .i64 (c'.1)), .v (.int .i64 (c'.2))]⟩, ⟨4, true, rowT heldO o⟩] := by
  obtain ⟨o, c1, ho, hc1, h1⟩ := right14_ex l c hc
  obtain ⟨v, c2, hv, hc2, h2⟩ := below_ex l c1 20 hc1 (by omega)
  have hol := ho.1
  by_cases v0 : v = 0
  · subst v0
    obtain ⟨w, c3, hw, hc3, h3⟩ := below_ex l c2 3 hc2 (by omega)
    refine ⟨o ++ [noneH w], c3, ⟨by rw [List.length_append, List.length_singleton]; omega, fun h hh => ?_⟩, hc3, ?_⟩
    · rcases List.mem_append.1 hh with hh | hh
      · exact ho.2 h hh
      · rw [List.mem_singleton.1 hh]
        exact ⟨by show (⟨#[]⟩ : ByteArray).size ≤ 40; decide, Nat.zero_le _, fun t ht => by cases ht⟩
    refine fnT C.spec_l14DrawHelds ?_
    refine runC ?_
    refine r_calln [0] h1 ?_
    refine runC ?_
    refine r_call1p 0 h2 ?_
    refine runC ?_
    refine r_call1p 0 h3 ?_
    refine run ?_
    refine r_apw ?_
    refine run ?_
    refine r_end [0, 3] [] (hs := ?_) (hres := by rw [List.length_append, List.length_singleton]; (simp only [go_sem, ↓reduceIte, Nat.reduceEqDiff, Nat.reduceMul, Nat.reduceAdd, Nat.reduceSub, Nat.reduceLT, Nat.reduceGT, Nat.reduceLeDiff, Nat.reduceBEq, Int.reduceLT, Int.reduceLE, Int.reduceNe, Int.reduceEq, Int.reduceToNat, Int.reduceAdd, Int.reduceSub, Int.reduceMul, Int.reduceNeg, Nat.reducePow, Int.reducePow, Nat.reduceSubDiff, decide_true, decide_false, reduceCtorEq, or_self, or_false, false_or, or_true, true_or, if_false, gt_iff_lt, ge_iff_le, ne_eq, not_true_eq_false, not_false_eq_true, and_self, beq_self_eq_true, Bool.false_eq_true]; try (repeat (first | exact True.intro | exact Wk.refl _ | exact Wk.nilR _ _ _ | exact Wk.nil _ _ | exact Wk.dead _ | exact Wk.bT (by assumption) | exact Wk.bF (by assumption) | exact Wk.eqI (by omega) | exact WkS.refl _ | exact Wks.same _ | exact Wks.nil | exact WkS.nil | refine And.intro ?_ ?_ | refine Wk.aggs ?_ | refine Wk.tups ?_ | refine Wks.cons ?_ ?_ | refine WkS.cons (by first | exact fun _ => rfl | exact fun h => absurd h Bool.false_ne_true) ?_ ?_ ?_ | assumption | exact (fun h => h) | exact (fun h => absurd h Bool.false_ne_true) | intro _))))
    rw [rowT_append, rowT_1]
    dsimp only [noneH, heldO]
    simp (disch := omega) only [go_sem, ↓reduceIte, Nat.reduceEqDiff, Nat.reduceMul, Nat.reduceAdd, Nat.reduceSub, Nat.reduceLT, Nat.reduceGT, Nat.reduceLeDiff, Nat.reduceBEq, Int.reduceLT, Int.reduceLE, Int.reduceNe, Int.reduceEq, Int.reduceToNat, Int.reduceAdd, Int.reduceSub, Int.reduceMul, Int.reduceNeg, Nat.reducePow, Int.reducePow, Nat.reduceSubDiff, decide_true, decide_false, reduceCtorEq, or_self, or_false, false_or, or_true, true_or, if_false, gt_iff_lt, ge_iff_le, ne_eq, not_true_eq_false, not_false_eq_true, and_self, beq_self_eq_true, Bool.false_eq_true]
    exact .cons (fun _ => rfl) (fun h => h) (fun _ => .same _) (.cons (fun _ => rfl) (fun h => h) (fun _ => wks_pre _ (.cons (.refl _) (.cons (.refl _) (.cons (.refl _) (.cons wk_nilS .nil))))) .nil)
  by_cases v1 : v = 1
  · subst v1
    cases o with
    | nil =>
      refine ⟨[], c2, capJ_of ho, hc2, ?_⟩
      refine fnT C.spec_l14DrawHelds ?_
      refine runC ?_
      refine r_calln [0] h1 ?_
      refine runC ?_
      refine r_call1p 0 h2 ?_
      refine run ?_
      exact r_end [0, 1] []
    | cons x o =>
      obtain ⟨w, c3, hw, hc3, h3⟩ := pick_ex l c2 [0, 1000, 1001] hc2 ⟨by decide, by decide⟩
      refine ⟨⟨w, x.size, x.dig, x.parts⟩ :: o, c3, ⟨by simp only [List.length_cons] at hol ⊢; omega, fun h hh => ?_⟩, hc3, ?_⟩
      · rcases List.mem_cons.1 hh with rfl | hh
        · exact ho.2 x (.head _)
        · exact ho.2 h (.tail _ hh)
      rw [rowT_cons] at h1 ⊢
      dsimp only [heldO, List.cons_append, List.nil_append] at h1 ⊢
      refine fnT C.spec_l14DrawHelds ?_
      refine runC ?_
      refine r_calln [0] h1 ?_
      refine runC ?_
      refine r_call1p 0 h2 ?_
      refine runC ?_
      refine r_call1p 0 (h3 1) ?_
      refine run ?_
      exact r_end [0, 1] []
  refine ⟨o, c2, capJ_of ho, hc2, ?_⟩
  refine fnT C.spec_l14DrawHelds ?_
  refine runC ?_
  refine r_calln [0] h1 ?_
  refine runC ?_
  refine r_call1p 0 h2 ?_
  refine run ?_
  exact r_end [0, 1] []

end Go.TL
