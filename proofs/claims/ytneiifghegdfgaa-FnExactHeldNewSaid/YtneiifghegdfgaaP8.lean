/- One held is put into a list of one's own, its parts a row of their own. No conditions but those that are written. -/
import Derived.Test.YtneiifghegdfgaaP7
namespace Go.TL
set_option linter.unusedSimpArgs false
open Go.Proofs Go.RowKit
attribute [local irreducible] wpOpsT wpT EndT Ex.seq Ex.block W

theorem CallsT.nest {P : Program} {S S1 : Store} {g : FuncId} {args : List T} {res : T} (b : Bool) (r : Nat) (p : List Nat) (j q : Nat) (h : CallsT P (nestS b r p j q S) g (reTs (nestF r p j q S.length) args) res S1) : CallsT P S g args res S1 := by
  refine ⟨h.fn, fun E w0 vals hS hI hsz ht => ?_⟩
  subst hS
  obtain ⟨E2, k1, k2, k3, k4, k5⟩ := nest_env hI (Evo.refl E) b r p j q
  rw [← k1]
  refine (h.run E2 w0 vals k2 k3 (by rw [hsz, reTs_length]) (fun i t hi => ?_)).mono fun e w' ⟨v, E', e1, e2, e3, e4, e5, e6⟩ => ⟨v, E', e1, e2, e3, e4, k4.trans e5, e6⟩
  rw [reTs_map, List.getElem?_map] at hi
  obtain ⟨t0, h0, rfl⟩ := Option.map_eq_some_iff.1 hi
  exact k5 _ _ (ht i t0 h0)

set_option maxHeartbeats 4000000 in
theorem insertHR (l : List HeldV) (y : HeldV) (i : Nat) (hi : i ≤ l.length) (hl : l.length ≤ 1000000) : CallsT Try.prog [⟨4, true, rowT heldO l⟩, ⟨4, true, [.v (.int .i64 y.rel), .v (.int .i64 y.size), .v (.string y.dig), .ref 2 [] 0 y.parts.length]⟩, ⟨1, true, rowT strC y.parts⟩] F.slices_Insert_Held [.ref 0 [] 0 l.length, .v (.int .i64 ((i : Nat))), .ref 1 [] 0 1] (.ref 4 [] 0 (l.length + 1)) [⟨4, false, []⟩, ⟨4, false, [.v (.int .i64 y.rel), .v (.int .i64 y.size), .v (.string y.dig), .ref 3 [3] 0 y.parts.length]⟩, ⟨1, false, rowT strC y.parts⟩, ⟨4, false, []⟩, ⟨4, true, rowT heldO (l.take i ++ y :: l.drop i)⟩] := by
  refine CallsT.nest false 1 [] 3 2 ?_
  have hn : nestS false 1 [] 3 2 [⟨4, true, rowT heldO l⟩, ⟨4, true, [.v (.int .i64 y.rel), .v (.int .i64 y.size), .v (.string y.dig), .ref 2 [] 0 y.parts.length]⟩, ⟨1, true, rowT strC y.parts⟩] = [⟨4, true, rowT heldO l⟩, ⟨4, false, [.v (.int .i64 y.rel), .v (.int .i64 y.size), .v (.string y.dig), .ref 3 [3] 0 y.parts.length]⟩, ⟨1, false, rowT strC y.parts⟩, ⟨4, true, heldO y⟩] := by
    simp (disch := omega) only [go_sem, ↓reduceIte, Nat.reduceEqDiff, Nat.reduceMul, Nat.reduceAdd, Nat.reduceSub, Nat.reduceLT, Nat.reduceGT, Nat.reduceLeDiff, Nat.reduceBEq, Int.reduceLT, Int.reduceLE, Int.reduceNe, Int.reduceEq, Int.reduceToNat, Int.reduceAdd, Int.reduceSub, Int.reduceMul, Int.reduceNeg, Nat.reducePow, Int.reducePow, Nat.reduceSubDiff, decide_true, decide_false, reduceCtorEq, or_self, or_false, false_or, or_true, true_or, if_false, gt_iff_lt, ge_iff_le, ne_eq, not_true_eq_false, not_false_eq_true, and_self, beq_self_eq_true, Bool.false_eq_true]

  have ha : reTs (nestF 1 [] 3 2 3) [.ref 0 [] 0 l.length, .v (.int .i64 ((i : Nat))), .ref 1 [] 0 1] = [.ref 0 [] 0 l.length, .v (.int .i64 ((i : Nat))), .ref 3 [] 0 1] := rfl
  rw [hn]
  show CallsT Try.prog _ _ (reTs (nestF 1 [] 3 2 3) _) _ _
  rw [ha]
  have hS0 : gcS [0, 3] [⟨4, true, rowT heldO l⟩, ⟨4, false, [.v (.int .i64 y.rel), .v (.int .i64 y.size), .v (.string y.dig), .ref 3 [3] 0 y.parts.length]⟩, ⟨1, false, rowT strC y.parts⟩, ⟨4, true, heldO y⟩] = [⟨4, true, rowT heldO l⟩, ⟨4, true, heldO y⟩] := by
    (first | (simp only [go_sem, ↓reduceIte, Nat.reduceEqDiff, Nat.reduceMul, Nat.reduceAdd, Nat.reduceSub, Nat.reduceLT, Nat.reduceGT, Nat.reduceLeDiff, Nat.reduceBEq, Int.reduceLT, Int.reduceLE, Int.reduceNe, Int.reduceEq, Int.reduceToNat, Int.reduceAdd, Int.reduceSub, Int.reduceMul, Int.reduceNeg, Nat.reducePow, Int.reducePow, Nat.reduceSubDiff, decide_true, decide_false, reduceCtorEq, or_self, or_false, false_or, or_true, true_or, if_false, gt_iff_lt, ge_iff_le, ne_eq, not_true_eq_false, not_false_eq_true, and_self, beq_self_eq_true, Bool.false_eq_true] <;> with_reducible rfl) | with_reducible rfl)
  have h := (insertH l y i hi hl).frame (rt := false) (args := [.ref 0 [] 0 l.length, .v (.int .i64 ((i : Nat))), .ref 3 [] 0 1]) 1 (by decide) (S := [⟨4, true, rowT heldO l⟩, ⟨4, false, [.v (.int .i64 y.rel), .v (.int .i64 y.size), .v (.string y.dig), .ref 3 [3] 0 y.parts.length]⟩, ⟨1, false, rowT strC y.parts⟩, ⟨4, true, heldO y⟩]) (ρ := [0, 3])
    ⟨rfl, by decide, fun r hr => by show r < 4; simp at hr; omega, hS0.symm⟩ (.same _) (by rfl) (by rfl) (fun x hx hlv => by
      simp only [List.mem_cons, List.not_mem_nil, or_false] at hx
      rcases hx with rfl | rfl | rfl
      · cases hlv
      · cases hlv
      · have hf : freeS 1 [(⟨4, true, rowT heldO (l.take i ++ y :: l.drop i)⟩ : Root)] = true := by (first | (simp only [go_sem, ↓reduceIte, Nat.reduceEqDiff, Nat.reduceMul, Nat.reduceAdd, Nat.reduceSub, Nat.reduceLT, Nat.reduceGT, Nat.reduceLeDiff, Nat.reduceBEq, Int.reduceLT, Int.reduceLE, Int.reduceNe, Int.reduceEq, Int.reduceToNat, Int.reduceAdd, Int.reduceSub, Int.reduceMul, Int.reduceNeg, Nat.reducePow, Int.reducePow, Nat.reduceSubDiff, decide_true, decide_false, reduceCtorEq, or_self, or_false, false_or, or_true, true_or, if_false, gt_iff_lt, ge_iff_le, ne_eq, not_true_eq_false, not_false_eq_true, and_self, beq_self_eq_true, Bool.false_eq_true] <;> with_reducible rfl) | with_reducible rfl)
        exact List.all_eq_true.1 hf _ (.head _)) (by show 2 ≤ 3; decide)
  have hb : backS [0, 3] [⟨4, true, rowT heldO l⟩, ⟨4, false, [.v (.int .i64 y.rel), .v (.int .i64 y.size), .v (.string y.dig), .ref 3 [3] 0 y.parts.length]⟩, ⟨1, false, rowT strC y.parts⟩, ⟨4, true, heldO y⟩] [⟨4, false, []⟩, ⟨4, false, []⟩, ⟨4, true, rowT heldO (l.take i ++ y :: l.drop i)⟩] = [⟨4, false, []⟩, ⟨4, false, [.v (.int .i64 y.rel), .v (.int .i64 y.size), .v (.string y.dig), .ref 3 [3] 0 y.parts.length]⟩, ⟨1, false, rowT strC y.parts⟩, ⟨4, false, []⟩, ⟨4, true, rowT heldO (l.take i ++ y :: l.drop i)⟩] := by
    (first | (simp only [go_sem, ↓reduceIte, Nat.reduceEqDiff, Nat.reduceMul, Nat.reduceAdd, Nat.reduceSub, Nat.reduceLT, Nat.reduceGT, Nat.reduceLeDiff, Nat.reduceBEq, Int.reduceLT, Int.reduceLE, Int.reduceNe, Int.reduceEq, Int.reduceToNat, Int.reduceAdd, Int.reduceSub, Int.reduceMul, Int.reduceNeg, Nat.reducePow, Int.reducePow, Nat.reduceSubDiff, decide_true, decide_false, reduceCtorEq, or_self, or_false, false_or, or_true, true_or, if_false, gt_iff_lt, ge_iff_le, ne_eq, not_true_eq_false, not_false_eq_true, and_self, beq_self_eq_true, Bool.false_eq_true] <;> with_reducible rfl) | with_reducible rfl)
  rw [hb] at h
  exact h

end Go.TL
