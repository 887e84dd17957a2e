/- What is drawn for RollRun: that there is a roll and a row of commands, whatever the bytes. No conditions but those that are written. -/
import Derived.Test.YthkahdjgkcccgaaJG11G12
namespace Go.TL
set_option linter.unusedSimpArgs false
open Go.Proofs Go.RowKit
attribute [local irreducible] wpOpsT wpT EndT Ex.seq Ex.block W

/-- The loop that fills a row of commands. -/
def noneC : CmdV := ⟨1, 0, 0, 0, ⟨#[]⟩⟩
def padF (b : Int × Int → Int × (Int × Int)) : Nat → Int × Int → List CmdV → (Int × Int) × List CmdV
  | 0, c, o => (c, o)
  | m + 1, c, o => if (o.length : Int) < 80 + (b c).1 then padF b m (b c).2 (o ++ [noneC]) else ((b c).2, o)
theorem padF_ok {l : List Int} {b : Int × Int → Int × (Int × Int)} (hb : ∀ c, curP l c.1 → (0 ≤ (b c).1 ∧ (b c).1 < 2) ∧ curP l (b c).2.1) : ∀ (m : Nat) (c : Int × Int) (o : List CmdV), curP l c.1 → o.length ≤ 90 → (∀ y ∈ o, y.dig.size ≤ 33) → curP l (padF b m c o).1.1 ∧ (padF b m c o).2.length ≤ 90 ∧ ∀ y ∈ (padF b m c o).2, y.dig.size ≤ 33
  | 0, c, o, hc, hl, ho => ⟨hc, hl, ho⟩
  | m + 1, c, o, hc, hl, ho => by
    have h1 := hb c hc
    rw [padF]
    split
    · rename_i hlt
      refine padF_ok hb m _ _ h1.2 (by rw [List.length_append, List.length_singleton]; omega) (fun y hy => ?_)
      rcases List.mem_append.1 hy with hy | hy
      · exact ho y hy
      · rw [List.mem_singleton.1 hy]
        show (0 : Nat) ≤ 33
        omega
    · exact ⟨h1.2, hl, ho⟩

structure PdS where
  c : Int × Int
  o : List CmdV

set_option linter.unusedSimpArgs false in
set_option maxHeartbeats 8000000 in
theorem drawRun_ex (l : List Int) (hl : (∀ x ∈ l, 0 ≤ x ∧ x < 256) ∧ l.length ≤ 140737488351232) : ∃ (x : RollV) (o : List CmdV), totRoll x.rels x.order ≤ 4000 ∧ (o.length ≤ 90 ∧ ∀ y ∈ o, y.dig.size ≤ 33) ∧
    CallsT Try.prog [] F.spec_DrawRollRun [.sl false 0 l.length 1 (rowT u8C l)] (.tup [.agg [.v (.int .i64 x.of), rowR 5 0 x.rels, .v (.int .i64 x.act), rowR 1 1 x.order], .ref 2 [] 0 o.length]) [⟨5, !x.rels.isEmpty, rowT relO x.rels⟩, ⟨1, !x.order.isEmpty, rowT i64C x.order⟩, ⟨5, true, rowT cmdC o⟩] := by
  have h0 := spec_l1New l hl
  have h33 : ofP 3 := by unfold ofP; omega
  have hc0 : curP l ((0, newS l (newN l)) : Int × Int).1 := ⟨hl.1, hl.2, by dsimp only; omega, by dsimp only; omega⟩
  obtain ⟨x, c1, htx, hc1, h1⟩ := roll_ex l (0, newS l (newN l)) hc0
  dsimp only at h1
  obtain ⟨o, c2, ⟨hol, hoP⟩, hc2, h2⟩ := cmds_ex l c1 3 40 hc1 (by unfold ofP; omega) (by omega)
  have hod : ∀ y ∈ o, y.dig.size ≤ 33 := fun y hy => by have := (hoP y hy).1; omega
  obtain ⟨v, c3, hc3, h3⟩ := once_ex l c2 30 hc2 (by omega)
  cases v with
  | false =>
    obtain ⟨w, c4, hc4, h4⟩ := once_ex l c3 2 hc3 (by omega)
    cases w with
    | true =>
      refine ⟨⟨3, [], 0, []⟩, o, by decide, ⟨by omega, hod⟩, ?_⟩
      refine fnT C.spec_DrawRollRun ?_
      refine runC ?_
      refine r_callp false h0 ?_
      refine runC ?_
      refine r_calln [1] h1 ?_
      refine runC ?_
      refine r_calln [1] h2 ?_
      refine runC ?_
      refine r_call1p 1 h3 ?_
      refine runC ?_
      refine r_call1p 1 h4 ?_
      refine run ?_
      exact r_end [2, 3, 5] []
    | false =>
      refine ⟨x, o, htx, ⟨by omega, hod⟩, ?_⟩
      refine fnT C.spec_DrawRollRun ?_
      refine runC ?_
      refine r_callp false h0 ?_
      refine runC ?_
      refine r_calln [1] h1 ?_
      refine runC ?_
      refine r_calln [1] h2 ?_
      refine runC ?_
      refine r_call1p 1 h3 ?_
      refine runC ?_
      refine r_call1p 1 h4 ?_
      refine run ?_
      exact r_end [2, 3, 5] [.sealR 3] (hres := by (simp only [go_sem, ↓reduceIte, Nat.reduceEqDiff, Nat.reduceMul, Nat.reduceAdd, Nat.reduceSub, Nat.reduceLT, Nat.reduceGT, Nat.reduceLeDiff, Nat.reduceBEq, Int.reduceLT, Int.reduceLE, Int.reduceNe, Int.reduceEq, Int.reduceToNat, Int.reduceAdd, Int.reduceSub, Int.reduceMul, Int.reduceNeg, Nat.reducePow, Int.reducePow, Nat.reduceSubDiff, decide_true, decide_false, reduceCtorEq, or_self, or_false, false_or, or_true, true_or, if_false, gt_iff_lt, ge_iff_le, ne_eq, not_true_eq_false, not_false_eq_true, and_self, beq_self_eq_true, Bool.false_eq_true]; try (repeat (first | exact True.intro | exact Wk.refl _ | exact Wk.nilR _ _ _ | exact Wk.nil _ _ | exact Wk.dead _ | exact Wk.bT (by assumption) | exact Wk.bF (by assumption) | exact Wk.eqI (by omega) | exact WkS.refl _ | exact Wks.same _ | exact Wks.nil | exact WkS.nil | refine And.intro ?_ ?_ | refine Wk.aggs ?_ | refine Wk.tups ?_ | refine Wks.cons ?_ ?_ | refine WkS.cons (by first | exact fun _ => rfl | exact fun h => absurd h Bool.false_ne_true) ?_ ?_ ?_ | assumption | exact (fun h => h) | exact (fun h => absurd h Bool.false_ne_true) | intro _))))
  | true =>
    obtain ⟨b, hb⟩ := Classical.axiomOfChoice (r := fun (c : Int × Int) (z : Int × (Int × Int)) => curP l c.1 → (0 ≤ z.1 ∧ z.1 < 2) ∧ curP l z.2.1 ∧ CallsT Try.prog [⟨0, true, [.sl false 0 l.length 1 (rowT u8C l), .v (.int .i64 c.1), .v (.int .i64 c.2)]⟩] F.spec_l1Below [.ptr 0 [] 0, .v (.int .i64 2)] (.v (.int .i64 z.1)) [⟨0, true, [.sl false 0 l.length 1 (rowT u8C l), .v (.int .i64 z.2.1), .v (.int .i64 z.2.2)]⟩]) (fun c => by
      by_cases h : curP l c.1
      · obtain ⟨v, c', k1, k2, k3⟩ := below_ex l c 2 h (by omega)
        exact ⟨(v, c'), fun _ => ⟨k1, k2, k3⟩⟩
      · exact ⟨(0, (0, 0)), fun h1 => absurd h1 h⟩)
    have hF := padF_ok (l := l) (b := b) (fun c hc => ⟨(hb c hc).1, (hb c hc).2.1⟩) 100 c3 o hc3 (by omega) hod
    generalize hRe : padF b 100 c3 o = R at hF
    obtain ⟨w, c4, hc4, h4⟩ := once_ex l R.1 2 hF.1 (by omega)
    cases w with
    | true =>
      refine ⟨⟨3, [], 0, []⟩, R.2, by decide, hF.2, ?_⟩
      clear hF
      refine fnT C.spec_DrawRollRun ?_
      refine runC ?_
      refine r_callp false h0 ?_
      refine runC ?_
      refine r_calln [1] h1 ?_
      refine runC ?_
      refine r_calln [1] h2 ?_
      refine runC ?_
      refine r_call1p 1 h3 ?_
      refine run ?_
      refine r_loop_of (fun (s : PdS) => [(2, .ptr 0 [] 0), (4, .ptr 1 [] 0), (5, .ptr 4 [] 0), (6, .ref 5 [] 0 s.o.length)]) (fun s => [⟨0, true, [.v (.int .i64 0), .v (.slice none 0 0), .v (.int .i64 0), .v (.slice none 0 0)]⟩, ⟨0, true, [.sl false 0 l.length 1 (rowT u8C l), .v (.int .i64 s.c.1), .v (.int .i64 s.c.2)]⟩, ⟨5, !x.rels.isEmpty, rowT relO x.rels⟩, ⟨1, true, rowT i64C x.order⟩, ⟨0, true, [.v (.int .i64 x.of), nilR 2 x.rels, .v (.int .i64 x.act), .ref 3 [] 0 x.order.length]⟩, ⟨5, true, rowT cmdC s.o⟩]) (fun s => curP l s.c.1 ∧ s.o.length ≤ 90 ∧ ∃ m, 90 - s.o.length < m ∧ padF b m s.c s.o = R) (fun s => 90 - s.o.length) ⟨c3, o⟩ [0, 1, 2, 3, 4, 5] [] ⟨hc3, by dsimp only; omega, 100, by omega, hRe⟩ Gc.of (fun s hs => ?_)
      obtain ⟨c, p⟩ := s
      obtain ⟨hc, hp, m, hm, hR⟩ := hs
      dsimp only at hc hp hm hR
      obtain ⟨m, rfl⟩ : ∃ k, m = k + 1 := ⟨m - 1, by omega⟩
      rw [padF] at hR
      have hbc := hb c hc
      dsimp only
      refine runC ?_
      refine r_call1p 1 hbc.2.2 ?_
      refine run ?_
      refine r_ifd (fun hlt => ?_) (fun hlt => ?_)
      · rw [if_pos hlt] at hR
        refine run ?_
        refine r_apw ?_
        refine run ?_
        refine ⟨⟨(b c).2, p ++ [noneC]⟩, [0, 1, 2, 3, 4, 7], [], Gc.of (hf := by simp only [List.length_append, List.length_singleton]; (simp only [go_sem, ↓reduceIte, Nat.reduceEqDiff, Nat.reduceMul, Nat.reduceAdd, Nat.reduceSub, Nat.reduceLT, Nat.reduceGT, Nat.reduceLeDiff, Nat.reduceBEq, Int.reduceLT, Int.reduceLE, Int.reduceNe, Int.reduceEq, Int.reduceToNat, Int.reduceAdd, Int.reduceSub, Int.reduceMul, Int.reduceNeg, Nat.reducePow, Int.reducePow, Nat.reduceSubDiff, decide_true, decide_false, reduceCtorEq, or_self, or_false, false_or, or_true, true_or, if_false, gt_iff_lt, ge_iff_le, ne_eq, not_true_eq_false, not_false_eq_true, and_self, beq_self_eq_true, Bool.false_eq_true]; try (repeat (first | exact True.intro | exact Wk.refl _ | exact Wk.nilR _ _ _ | exact Wk.nil _ _ | exact Wk.dead _ | exact Wk.bT (by assumption) | exact Wk.bF (by assumption) | exact Wk.eqI (by omega) | exact WkS.refl _ | exact Wks.same _ | exact Wks.nil | exact WkS.nil | refine And.intro ?_ ?_ | refine Wk.aggs ?_ | refine Wk.tups ?_ | refine Wks.cons ?_ ?_ | refine WkS.cons (by first | exact fun _ => rfl | exact fun h => absurd h Bool.false_ne_true) ?_ ?_ ?_ | assumption | exact (fun h => h) | exact (fun h => absurd h Bool.false_ne_true) | intro _)))) (hs := ?_), by dsimp only; rw [List.length_append, List.length_singleton]; omega, hbc.2.1, by dsimp only; rw [List.length_append, List.length_singleton]; omega, m, by dsimp only; rw [List.length_append, List.length_singleton]; omega, hR⟩
        dsimp only
        rw [rowT_append, rowT_1]
        dsimp only [noneC, cmdC]
        (simp (disch := omega) only [go_sem, ↓reduceIte, Nat.reduceEqDiff, Nat.reduceMul, Nat.reduceAdd, Nat.reduceSub, Nat.reduceLT, Nat.reduceGT, Nat.reduceLeDiff, Nat.reduceBEq, Int.reduceLT, Int.reduceLE, Int.reduceNe, Int.reduceEq, Int.reduceToNat, Int.reduceAdd, Int.reduceSub, Int.reduceMul, Int.reduceNeg, Nat.reducePow, Int.reducePow, Nat.reduceSubDiff, decide_true, decide_false, reduceCtorEq, or_self, or_false, false_or, or_true, true_or, if_false, gt_iff_lt, ge_iff_le, ne_eq, not_true_eq_false, not_false_eq_true, and_self, beq_self_eq_true, Bool.false_eq_true, List.append_assoc]; exact WkS.refl _)
      rw [if_neg hlt] at hR
      subst hR
      dsimp only at h4
      refine runC ?_
      refine r_call1p 1 h4 ?_
      refine run ?_
      exact r_end [2, 3, 5] []
    | false =>
      refine ⟨x, R.2, htx, hF.2, ?_⟩
      clear hF
      refine fnT C.spec_DrawRollRun ?_
      refine runC ?_
      refine r_callp false h0 ?_
      refine runC ?_
      refine r_calln [1] h1 ?_
      refine runC ?_
      refine r_calln [1] h2 ?_
      refine runC ?_
      refine r_call1p 1 h3 ?_
      refine run ?_
      refine r_loop_of (fun (s : PdS) => [(2, .ptr 0 [] 0), (4, .ptr 1 [] 0), (5, .ptr 4 [] 0), (6, .ref 5 [] 0 s.o.length)]) (fun s => [⟨0, true, [.v (.int .i64 0), .v (.slice none 0 0), .v (.int .i64 0), .v (.slice none 0 0)]⟩, ⟨0, true, [.sl false 0 l.length 1 (rowT u8C l), .v (.int .i64 s.c.1), .v (.int .i64 s.c.2)]⟩, ⟨5, !x.rels.isEmpty, rowT relO x.rels⟩, ⟨1, true, rowT i64C x.order⟩, ⟨0, true, [.v (.int .i64 x.of), nilR 2 x.rels, .v (.int .i64 x.act), .ref 3 [] 0 x.order.length]⟩, ⟨5, true, rowT cmdC s.o⟩]) (fun s => curP l s.c.1 ∧ s.o.length ≤ 90 ∧ ∃ m, 90 - s.o.length < m ∧ padF b m s.c s.o = R) (fun s => 90 - s.o.length) ⟨c3, o⟩ [0, 1, 2, 3, 4, 5] [] ⟨hc3, by dsimp only; omega, 100, by omega, hRe⟩ Gc.of (fun s hs => ?_)
      obtain ⟨c, p⟩ := s
      obtain ⟨hc, hp, m, hm, hR⟩ := hs
      dsimp only at hc hp hm hR
      obtain ⟨m, rfl⟩ : ∃ k, m = k + 1 := ⟨m - 1, by omega⟩
      rw [padF] at hR
      have hbc := hb c hc
      dsimp only
      refine runC ?_
      refine r_call1p 1 hbc.2.2 ?_
      refine run ?_
      refine r_ifd (fun hlt => ?_) (fun hlt => ?_)
      · rw [if_pos hlt] at hR
        refine run ?_
        refine r_apw ?_
        refine run ?_
        refine ⟨⟨(b c).2, p ++ [noneC]⟩, [0, 1, 2, 3, 4, 7], [], Gc.of (hf := by simp only [List.length_append, List.length_singleton]; (simp only [go_sem, ↓reduceIte, Nat.reduceEqDiff, Nat.reduceMul, Nat.reduceAdd, Nat.reduceSub, Nat.reduceLT, Nat.reduceGT, Nat.reduceLeDiff, Nat.reduceBEq, Int.reduceLT, Int.reduceLE, Int.reduceNe, Int.reduceEq, Int.reduceToNat, Int.reduceAdd, Int.reduceSub, Int.reduceMul, Int.reduceNeg, Nat.reducePow, Int.reducePow, Nat.reduceSubDiff, decide_true, decide_false, reduceCtorEq, or_self, or_false, false_or, or_true, true_or, if_false, gt_iff_lt, ge_iff_le, ne_eq, not_true_eq_false, not_false_eq_true, and_self, beq_self_eq_true, Bool.false_eq_true]; try (repeat (first | exact True.intro | exact Wk.refl _ | exact Wk.nilR _ _ _ | exact Wk.nil _ _ | exact Wk.dead _ | exact Wk.bT (by assumption) | exact Wk.bF (by assumption) | exact Wk.eqI (by omega) | exact WkS.refl _ | exact Wks.same _ | exact Wks.nil | exact WkS.nil | refine And.intro ?_ ?_ | refine Wk.aggs ?_ | refine Wk.tups ?_ | refine Wks.cons ?_ ?_ | refine WkS.cons (by first | exact fun _ => rfl | exact fun h => absurd h Bool.false_ne_true) ?_ ?_ ?_ | assumption | exact (fun h => h) | exact (fun h => absurd h Bool.false_ne_true) | intro _)))) (hs := ?_), by dsimp only; rw [List.length_append, List.length_singleton]; omega, hbc.2.1, by dsimp only; rw [List.length_append, List.length_singleton]; omega, m, by dsimp only; rw [List.length_append, List.length_singleton]; omega, hR⟩
        dsimp only
        rw [rowT_append, rowT_1]
        dsimp only [noneC, cmdC]
        (simp (disch := omega) only [go_sem, ↓reduceIte, Nat.reduceEqDiff, Nat.reduceMul, Nat.reduceAdd, Nat.reduceSub, Nat.reduceLT, Nat.reduceGT, Nat.reduceLeDiff, Nat.reduceBEq, Int.reduceLT, Int.reduceLE, Int.reduceNe, Int.reduceEq, Int.reduceToNat, Int.reduceAdd, Int.reduceSub, Int.reduceMul, Int.reduceNeg, Nat.reducePow, Int.reducePow, Nat.reduceSubDiff, decide_true, decide_false, reduceCtorEq, or_self, or_false, false_or, or_true, true_or, if_false, gt_iff_lt, ge_iff_le, ne_eq, not_true_eq_false, not_false_eq_true, and_self, beq_self_eq_true, Bool.false_eq_true, List.append_assoc]; exact WkS.refl _)
      rw [if_neg hlt] at hR
      subst hR
      dsimp only at h4
      refine runC ?_
      refine r_call1p 1 h4 ?_
      refine run ?_
      exact r_end [2, 3, 5] [.sealR 3] (hres := by (simp only [go_sem, ↓reduceIte, Nat.reduceEqDiff, Nat.reduceMul, Nat.reduceAdd, Nat.reduceSub, Nat.reduceLT, Nat.reduceGT, Nat.reduceLeDiff, Nat.reduceBEq, Int.reduceLT, Int.reduceLE, Int.reduceNe, Int.reduceEq, Int.reduceToNat, Int.reduceAdd, Int.reduceSub, Int.reduceMul, Int.reduceNeg, Nat.reducePow, Int.reducePow, Nat.reduceSubDiff, decide_true, decide_false, reduceCtorEq, or_self, or_false, false_or, or_true, true_or, if_false, gt_iff_lt, ge_iff_le, ne_eq, not_true_eq_false, not_false_eq_true, and_self, beq_self_eq_true, Bool.false_eq_true]; try (repeat (first | exact True.intro | exact Wk.refl _ | exact Wk.nilR _ _ _ | exact Wk.nil _ _ | exact Wk.dead _ | exact Wk.bT (by assumption) | exact Wk.bF (by assumption) | exact Wk.eqI (by omega) | exact WkS.refl _ | exact Wks.same _ | exact Wks.nil | exact WkS.nil | refine And.intro ?_ ?_ | refine Wk.aggs ?_ | refine Wk.tups ?_ | refine Wks.cons ?_ ?_ | refine WkS.cons (by first | exact fun _ => rfl | exact fun h => absurd h Bool.false_ne_true) ?_ ?_ ?_ | assumption | exact (fun h => h) | exact (fun h => absurd h Bool.false_ne_true) | intro _))))

end Go.TL
